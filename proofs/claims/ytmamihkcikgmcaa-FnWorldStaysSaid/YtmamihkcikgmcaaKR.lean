/- Texts Sse, Rss in one. -/
import Derived.Test.YtmamihkcikgmcaaKG
import Derived.Test.YtmamihkcikgmcaaKI
/- The laws' own functions on slices of slices of whole numbers: eqIntSS, markIntSS, heldIntSS. -/
namespace Go.Proofs.Ytmamihkcikgmcaa
open Go.RowKit

theorem lAt_set {L : List (List Int)} {k i : Nat} {l : List Int} (h : k < L.length) : lAt (L.set k l) i = if i = k then l else lAt L i := by
  unfold lAt List.getD
  by_cases e : i = k
  · subst e; rw [List.getElem?_set_self h, if_pos rfl]; rfl
  · rw [List.getElem?_set_ne (fun e' => e e'.symm), if_neg e]
/-- one row turned in its own block -/
theorem OwnSS.step {w w' : World} {B : Nat} {v : Value} {us : List Value} {L : List (List Int)} (h : OwnSS w B v us L) {k : Nat} {l : List Int} (hk : k < L.length) (hn : Own w' B 1 (vAt us k) l.length (ints l)) (hg : w.grownBy w' (vAt us k).ownBlock) : OwnSS w' B v us (L.set k l) := by
  refine ⟨h.o.kept hg (h.dv k hk), by rw [List.length_set]; exact h.n, fun i hi => ?_, fun i j hi hj => ?_, fun i hi => ?_⟩
  · rw [List.length_set] at hi
    rw [lAt_set hk]
    by_cases e : i = k
    · subst e; rw [if_pos rfl]; exact hn
    · rw [if_neg e]; exact (h.r i hi).kept hg (h.dj i k hi hk e)
  · rw [List.length_set] at hi hj; exact h.dj i j hi hj
  · rw [List.length_set] at hi; exact h.dv i hi
theorem Own.cells1 {w : World} {base n : Nat} {v : Value} {us : List Value} (h : Own w base 1 v n us) : ∃ ao cap, v = .slice ao n cap ∧ (0 < n → ∃ g, ao = some ⟨g, 0, none⟩ ∧ g < w.heap.size ∧ ∀ k, k < us.length → w.cell? ⟨g, k, none⟩ = some (vAt us k)) := by
  rcases h.val with ⟨rfl, rfl⟩ | ⟨g, cap, rfl, hb, hg, _, _, hc, _⟩
  · exact ⟨_, _, rfl, fun h => absurd h (Nat.lt_irrefl _)⟩
  · have hl := h.len
    exact ⟨_, _, rfl, fun _ => ⟨g, rfl, hg, fun k hk => by rw [hc k (by omega), vAt_get hk]⟩⟩
theorem At.cells1 {w : World} {n : Nat} {v : Value} {us : List Value} (h : At w 1 v n us) : ∃ ao cap, v = .slice ao n cap ∧ (0 < n → ∃ g off, ao = some ⟨g, off, none⟩ ∧ g < w.heap.size ∧ ∀ k, k < us.length → w.cell? ⟨g, off + k, none⟩ = some (vAt us k)) := by
  obtain ⟨hl, ao, cap, rfl, hn, _, hc⟩ := h
  refine ⟨ao, cap, rfl, fun h0 => ?_⟩
  obtain ⟨g, off, rfl, hg, hc⟩ := hc (by omega)
  exact ⟨g, off, rfl, hg, fun k hk => by rw [hc k (by omega), vAt_get hk]⟩
set_option maxRecDepth 100000 in
set_option maxHeartbeats 4000000 in
theorem eqss_ret {va vb : Value} {ua ub : List Value} {L : List (List Int)} (w : World) (ha : AtSS w va ua L) (hb : AtSS w vb ub L) (hm : L.length ≤ 1048576) (hl : ∀ k, k < L.length → (lAt L k).length ≤ 1048576) :
    Calls Try.prog 51 #[va, vb] w fun e w' => e = .returned (.bool true) ∧ Below w.heap.size w w' := by
  have ha0 := ha
  have hb0 := hb
  obtain ⟨ao, cap, rfl, hca⟩ := ha.o.cells1
  obtain ⟨bo, cap2, rfl, hcb⟩ := hb.o.cells1
  have na := ha.n
  have nb := hb.n
  rw [na] at hca ⊢
  rw [nb] at hcb ⊢
  clear ha hb
  go_enter Try.func51, Try.ntmps51
  go_wp2_with fail
  go_loopw [5] (fun i wr => ∃ k : Nat, k ≤ L.length ∧ i = .int .i64 k ∧ Below w.heap.size w wr) (fun i _ => L.length - (intOf i).toNat)
  case atStart => exact ⟨0, Nat.zero_le _, rfl, Below.refl _ _⟩
  case round =>
    obtain ⟨k, hk, rfl, hbl⟩ := hrel
    by_cases hlt : k < L.length
    · obtain ⟨g, off, rfl, hg, hcell⟩ := hca (by omega)
      obtain ⟨g2, off2, rfl, hg2, hcell2⟩ := hcb (by omega)
      have c1 := (hbl.cell hg).trans (hcell k (by omega))
      have c2 := (hbl.cell hg2).trans (hcell2 k (by omega))
      have hra := (ha0.r k hlt).below hbl.drew
      have hrb := (hb0.r k hlt).below hbl.drew
      have hlk := hl k hlt
      obtain ⟨x, hx⟩ : ∃ x, vAt ua k = x := ⟨_, rfl⟩
      obtain ⟨y, hy⟩ : ∃ x, vAt ub k = x := ⟨_, rfl⟩
      rw [hx] at c1 hra
      rw [hy] at c2 hrb
      clear hca hcb hcell hcell2 ha0 hb0 hx hy na nb hl
      go_wp2_with fail
      refine wp_region_tailV 8 (by kernel_rfl) (by kernel_rfl) ?_
      intro OPS HOPS
      simp only [List.take_succ_cons, List.take_zero, List.drop_succ_cons, List.drop_zero]
      repeat still_step
      refine wpStill_nil ?_
      change wpList _ _ _ _ _ wr.drew
      go_wp2_with fail
      refine (eqints_ret wr.drew hra hrb (by omega)).mono ?_
      rintro e wa ⟨rfl, n, hwa⟩
      have hbla : Below w.heap.size w wa := by rw [hwa]; exact below_drewN hbl.drew n
      clear hwa
      go_wp2_with fail
      go_roundw
      case rel => exact ⟨k + 1, by omega, by go_num, hbla⟩
      case measure => simp [intOf]; omega
    · clear hca hcb na nb
      go_wp2_with fail
      go_ret
      exact ⟨rfl, hbl⟩
def sumL (L : List (List Int)) : Nat → Nat
  | 0 => 0
  | k + 1 => sumL L k + (lAt L k).length
theorem sumL_mono (L : List (List Int)) {i : Nat} : ∀ {j : Nat}, i ≤ j → sumL L i ≤ sumL L j
  | 0, h => by rw [Nat.le_zero.1 h]; exact Nat.le_refl _
  | j + 1, h => by
    by_cases e : i = j + 1
    · subst e; exact Nat.le_refl _
    · have := sumL_mono L (i := i) (j := j) (by omega)
      simp only [sumL]; omega
/-- the rows marked so far -/
def mkSS (k0 : Int) (L : List (List Int)) : Nat → List (List Int)
  | 0 => L
  | k + 1 => (mkSS k0 L k).set k (marks (k0 + sumL L k) (lAt L k).length)
theorem mkSS_len (k0 : Int) (L : List (List Int)) : ∀ k, (mkSS k0 L k).length = L.length
  | 0 => rfl
  | k + 1 => by simp only [mkSS, List.length_set, mkSS_len k0 L k]
theorem mkSS_at (k0 : Int) (L : List (List Int)) : ∀ k, k ≤ L.length → ∀ i, lAt (mkSS k0 L k) i = if i < k then marks (k0 + sumL L i) (lAt L i).length else lAt L i
  | 0, _, i => by simp [mkSS]
  | k + 1, h, i => by
    simp only [mkSS]
    rw [lAt_set (by rw [mkSS_len]; omega), mkSS_at k0 L k (by omega) i]
    by_cases e : i = k
    · subst e; rw [if_pos rfl, if_pos (by omega)]
    · rw [if_neg e]
      by_cases h2 : i < k
      · rw [if_pos h2, if_pos (by omega)]
      · rw [if_neg h2, if_neg (by omega)]
def blkSS (v : Value) (us : List Value) (i : Nat) : Prop := v.ownBlock = some i ∨ ∃ k, k < us.length ∧ (vAt us k).ownBlock = some i
theorem OwnSS.ge {w : World} {B : Nat} {v : Value} {us : List Value} {L : List (List Int)} (h : OwnSS w B v us L) : ∀ i, blkSS v us i → B ≤ i ∧ i < w.heap.size := fun i hi => by
  rcases hi with hi | ⟨k, hk, hi⟩
  · exact h.o.ge i hi
  · exact (h.r k (by rw [← h.n]; exact hk)).ge i hi
theorem OwnSS.tch {S : Nat → Prop} {w w' : World} {B : Nat} {v : Value} {us : List Value} {L : List (List Int)} (h : OwnSS w B v us L) (ht : Tch S w w') (hs : ∀ i, blkSS v us i → ¬ S i) : OwnSS w' B v us L :=
  ⟨h.o.tch ht fun i hi => hs i (.inl hi), h.n, fun k hk => (h.r k hk).tch ht fun i hi => hs i (.inr ⟨k, by rw [h.n]; exact hk, hi⟩), h.dj, h.dv⟩
set_option maxRecDepth 100000 in
set_option maxHeartbeats 4000000 in
theorem markss_ret {v : Value} {us : List Value} {L : List (List Int)} {B : Nat} (k0 : Int) (w : World) (h : OwnSS w B v us L) (hm : L.length ≤ 1048576) (h0 : 0 ≤ k0) (h1 : k0 + sumL L L.length ≤ 100000000) :
    Calls Try.prog 52 #[v, .int .i64 k0] w fun e w' => e = .returned (.int .i64 (k0 + sumL L L.length)) ∧ OwnSS w' B v us (mkSS k0 L L.length) ∧ Tch (blkSS v us) w w' := by
  have hn := h.n
  have HSM := Lib.hid (fun i j => sumL_mono L (i := i) (j := j))
  have HS : Hid (∀ k, sumL L (k + 1) = sumL L k + (lAt L k).length) := Lib.hid fun k => rfl
  have HAT := Lib.hid (mkSS_at k0 L)
  have HLN := Lib.hid (mkSS_len k0 L)
  have HST : Hid (∀ k, mkSS k0 L (k + 1) = (mkSS k0 L k).set k (marks (k0 + sumL L k) (lAt L k).length)) := Lib.hid fun k => rfl
  have hO0 : OwnSS w B v us (mkSS k0 L 0) := h
  have hz : sumL L 0 = 0 := rfl
  generalize sumL L = S at *
  generalize mkSS k0 L = M at *
  obtain ⟨ao, cap, rfl, hc⟩ := h.o.cells1
  rw [hn] at hO0 ⊢
  have HU := Lib.hid hn
  clear hn
  clear hc h
  go_enter Try.func52, Try.ntmps52
  go_wp2_with fail
  go_loopw [1, 5] (fun q i wr => ∃ (k : Nat) (m : Int), k ≤ L.length ∧ q = .int .i64 m ∧ Hid (m = k0 + S k) ∧ i = .int .i64 k ∧ OwnSS wr B (.slice ao L.length cap) us (M k) ∧ Tch (blkSS (.slice ao L.length cap) us) w wr) (fun _ i _ => L.length - (intOf i).toNat)
  case atStart => exact ⟨0, k0, Nat.zero_le _, rfl, Lib.hid (by rw [hz]; simp), rfl, hO0, Tch.refl _ _⟩
  case round =>
    clear hz hO0
    obtain ⟨k, m, hk, rfl, HM, rfl, hO, ht⟩ := hrel
    by_cases hlt : k < L.length
    · obtain ⟨ao', cap', hv, hcl⟩ := hO.o.cells1
      simp only [Value.slice.injEq] at hv
      obtain ⟨rfl, hq, rfl⟩ := hv
      clear hq
      obtain ⟨g, rfl, hg, hcell⟩ := hcl (by rw [HU.out]; omega)
      have c1 := hcell k (by rw [HU.out]; exact hlt)
      have hr := hO.r k (by rw [HLN.out]; exact hlt)
      rw [HAT.out k hk k, if_neg (by omega)] at hr
      have hmm : 0 ≤ m ∧ m ≤ 100000000 ∧ (lAt L k).length ≤ 100000000 := by
        have e1 := HM.out
        have e2 := HS.out k
        have e3 := HSM.out (k + 1) L.length (by omega)
        omega
      obtain ⟨x, hx⟩ : ∃ x, vAt us k = x := ⟨_, rfl⟩
      rw [hx] at c1 hr
      have HX := Lib.hid hx
      clear hcl hcell hx
      go_wp2_with fail
      refine (markints2_ret m _ hr (by omega) hmm.1 hmm.2.1).mono ?_
      rintro e wa ⟨rfl, hown, hgr⟩
      have hO2 : OwnSS wa B (.slice (some ⟨g, 0, none⟩) L.length cap) us (M (k + 1)) := by
        rw [HST.out k, ← HM.out]
        refine hO.step (by rw [HLN.out]; exact hlt) ?_ (by rw [HX.out]; exact hgr)
        rw [HX.out]; exact hown
      have ht2 := ht.trans (Tch.of_grown (S := blkSS (.slice (some ⟨g, 0, none⟩) L.length cap) us) hgr (fun i hi => .inr ⟨k, by rw [HU.out]; exact hlt, by rw [HX.out]; exact hi⟩))
      go_wp2_with fail
      go_roundw
      case rel => exact ⟨k + 1, m + ((lAt L k).length : Int), by omega, by first | rfl | go_num, Lib.hid (by have a1 := HS.out k; have a2 := HM.out; omega), by go_num, hO2, ht2⟩
      case measure => simp [intOf]; omega
    · obtain rfl : k = L.length := by omega
      have HQ := HM.out
      go_wp2_with fail
      go_ret
      exact ⟨by first | exact ret_int HQ | rfl, hO, ht⟩
end Go.Proofs.Ytmamihkcikgmcaa
/- The laws' own functions on slices of slices of whole numbers: an argument opened, szIntSS, toIntSS. -/
namespace Go.Proofs.Ytmamihkcikgmcaa
open Go.RowKit Go.Joins Go.ChangeShapes Go.WideShapes Go.Deep

def Arg_rows (w : World) (v : Value) : Prop := ∃ us L, AtSS w v us L ∧ ∀ l ∈ L, ∀ n ∈ l, (Lit.int .i64 n).wf = true
section
variable {H : Type} {enc : TypeId × Value → H} {P : Program}
theorem open_ss {W : World} {b0 : Nat} {t e T : TypeId} {fuel : Nat} {v : Value} {x : DataW H × List MemPlace} (ht : P.underlying t = some (.slice e)) (he : P.underlying e = some (.slice T)) (hT : P.underlying T = some (.int .i64)) (hC : P.cellsOf e = 1) (hCT : P.cellsOf T = 1)
    (h : DataW.trod enc P W b0 (fun _ => true) true fuel t [v] = some x) : Arg_rows W v := by
  rcases open_slice1 ht hC h with ⟨h0, _⟩ | ⟨a, len, cap, m, n, V, D, Pl, hcs, _, hlc, hcm, hmm, _, hel⟩
  · simp at h0
    subst h0
    exact ⟨[], [], ⟨⟨rfl, none, 0, rfl, Nat.le_refl _, Nat.zero_le _, fun h => absurd h (Nat.lt_irrefl _)⟩, rfl, fun _ h => absurd h (Nat.not_lt_zero _)⟩, fun _ h => by simp at h⟩
  · simp at hcs
    subst hcs
    simp only [if_true] at hmm
    subst hmm
    have each : ∀ i, ∃ l : List Int, i < m → At W 1 (V i) l.length (ints l) ∧ ∀ n ∈ l, (Lit.int .i64 n).wf = true := by
      intro i
      by_cases hi : i < m
      · have ht := (hel i hi).2
        obtain ⟨a', l', c', hv⟩ := trod_isslice he ht
        rw [hv] at ht
        obtain ⟨l, h1, h2⟩ := open_numT he hT hCT ht
        exact ⟨l, fun _ => ⟨by rw [hv]; exact h1, h2⟩⟩
      · exact ⟨[], fun h => absurd h hi⟩
    obtain ⟨f, hf⟩ := Classical.axiomOfChoice each
    refine ⟨(List.range len).map V, (List.range len).map f, ⟨⟨by simp, some a, m, by simp, by simpa using hlc, hcm, fun h0 => ?_⟩, by simp, fun k hk => ?_⟩, fun l hl => ?_⟩
    · have c0 := (hel 0 (by omega)).1
      have hspot : a.spot = none := World.cell?_spot (a := a) (by simpa [Addr.add] using c0)
      obtain ⟨g, off, spot⟩ := a
      simp only at hspot
      subst hspot
      have ea : ∀ j, (⟨g, off, none⟩ : Addr).add j = ⟨g, off + j, none⟩ := fun j => by unfold Addr.add; split <;> simp_all
      refine ⟨g, off, rfl, World.block_lt_of_cell? W ⟨g, off, none⟩ (u := V 0) (by simpa [Addr.add] using c0), fun j hj => ?_⟩
      simp at hj
      have c := (hel j (by omega)).1
      rw [ea] at c
      rw [c, List.getElem?_map, List.getElem?_range hj]
      rfl
    · simp at hk
      have h1 : vAt ((List.range len).map V) k = V k := by
        unfold vAt List.getD
        rw [List.getElem?_map, List.getElem?_range hk]
        rfl
      have h2 : lAt ((List.range len).map f) k = f k := by
        unfold lAt List.getD
        rw [List.getElem?_map, List.getElem?_range hk]
        rfl
      rw [h1, h2]
      exact (hf k (by omega)).1
    · obtain ⟨i, hi, rfl⟩ := List.mem_map.1 hl
      exact (hf i (by have := List.mem_range.1 hi; omega)).2
end
set_option maxRecDepth 100000 in
theorem open_rows {H : Type} {enc : TypeId × Value → H} {w W : World} {r : Reach} {base b0 : Nat} {v : Value} {d : DataW H} {ps : List MemPlace} (hval : Value.okWide Try.prog w r base 37 v) (hd : DataW.Trod enc Try.prog W b0 (fun _ => true) true 37 v d ps) : Arg_rows W v := by
  obtain ⟨a, len, cap, rfl⟩ := okWide_slice Try.underlying37 hval
  obtain ⟨fuel, hf⟩ := hd
  exact open_ss Try.underlying37 Try.underlying33 Try.underlying3 (by kernel_rfl) (by kernel_rfl) hf
theorem sumL_le (L : List (List Int)) : ∀ {k n : Nat}, k ≤ n → sumL L k ≤ sumL L n := by
  intro k n h
  induction n with
  | zero => obtain rfl : k = 0 := by omega
            exact Nat.le_refl _
  | succ n ih =>
    by_cases e : k = n + 1
    · subst e; exact Nat.le_refl _
    · have := ih (by omega)
      simp only [sumL]; omega
/-- what rows may measure -/
structure SSmall (L : List (List Int)) : Prop where
  n : L.length ≤ 1048576
  s : sumL L L.length ≤ 1048576
theorem SSmall.l {L : List (List Int)} (h : SSmall L) {k : Nat} (hk : k < L.length) : (lAt L k).length ≤ 1048576 := by
  have h1 := sumL_le L (k := k + 1) (n := L.length) hk
  have h2 := h.s
  simp only [sumL] at h1
  omega
set_option maxRecDepth 100000 in
set_option maxHeartbeats 4000000 in
theorem szss_ret {v : Value} {us : List Value} {L : List (List Int)} (left : Int) (w : World) (h : AtSS w v us L) (h0 : 0 ≤ left) (h1 : left ≤ 1048576) :
    Calls Try.prog 49 #[v, .int .i64 left] w fun e w' => ∃ z : Int, e = .returned (.int .i64 z) ∧ (z = -1 ∨ (0 ≤ z ∧ z ≤ left ∧ SSmall L)) ∧ Below w.heap.size w w' := by
  have hh := h
  obtain ⟨ao, cap, rfl, hc⟩ := h.o.cells1
  have hm := h.o.len63
  have hn := h.n
  rw [hn] at hc hm ⊢
  clear h
  go_enter Try.func49, Try.ntmps49
  by_cases hneg : left - (L.length : Int) < 0
  · clear hc
    go_wp2_with fail
    go_ret
    exact ⟨_, rfl, .inl rfl, Below.refl _ _⟩
  have hLm : L.length ≤ 1048576 := by omega
  go_wp2_with fail
  go_loopw [1, 5] (fun z i wr => ∃ k : Nat, k ≤ L.length ∧ i = .int .i64 k ∧ (∃ y : Int, z = .int .i64 y ∧ 0 ≤ y ∧ y + (L.length : Int) + (sumL L k : Int) = left) ∧ Below w.heap.size w wr) (fun _ i _ => L.length - (intOf i).toNat)
  case atStart => exact ⟨0, Nat.zero_le _, rfl, ⟨_, rfl, by omega, by simp only [sumL]; omega⟩, Below.refl _ _⟩
  case round =>
    obtain ⟨k, hk, rfl, ⟨y, rfl, hy0, hy⟩, hbl⟩ := hrel
    by_cases hlt : k < L.length
    · obtain ⟨g, off, rfl, hg, hcell⟩ := hc (by omega)
      have c1 := (hbl.cell hg).trans (hcell k (by omega))
      have hra := (hh.r k hlt).below hbl
      have hs : Hid (sumL L (k + 1) = sumL L k + (lAt L k).length) := Lib.hid rfl
      generalize vAt us k = x at c1 hra
      clear hc hcell hh
      go_wp2_with fail
      refine (szints_ret y _ hra hra.len63 hy0 (by omega)).mono ?_
      rintro e wa ⟨rfl, rfl⟩
      by_cases hq : y - ((lAt L k).length : Int) < 0
      · rw [if_pos hq]
        go_wp2_with fail
        go_ret
        exact ⟨_, rfl, .inl rfl, hbl⟩
      rw [if_neg hq]
      go_wp2_with fail
      go_roundw
      case rel => exact ⟨k + 1, by omega, by go_num, ⟨_, rfl, by omega, by rw [hs.out]; omega⟩, hbl⟩
      case measure => simp [intOf]; omega
    · obtain rfl : k = L.length := by omega
      clear hc hh
      go_wp2_with fail
      go_ret
      exact ⟨_, rfl, .inr ⟨hy0, by omega, hLm, by omega⟩, hbl⟩
section
variable {ops : Array Oper} {rest : List Oper} {o : Oper} {a : Act} {Q : Exit → Act → World → Prop}
/-- 'make([][]int, n)' -/
theorem make_ss (w : World) (hgd : o.guard = none) (l c : Operand) (ho : o.op = Op.makeSlice 37 l c) (base n : Nat) (hl : a.eval l = .int .i64 (n : Int)) (hc : a.eval c = .int .i64 (n : Int)) (hn : n ≤ 1048576) (hbase : base ≤ w.heap.size)
    (hK : ∀ w', OwnSS w' base (.slice (some ⟨w.heap.size, 0, none⟩) n n) (List.replicate n nilV) (List.replicate n []) → w.grownBy w' none → wpList Try.prog ops Q rest (a.put o.dst (.slice (some ⟨w.heap.size, 0, none⟩) n n)) w') :
    wpList Try.prog ops Q (o :: rest) a w := by
  obtain ⟨i0, hi, hz0, hz1, hz2⟩ := ss_parts
  refine wpList_make_row (P := Try.prog) w hgd l c 37 ho 33 i0 nilV Try.underlying37 hi hz0 hz1 rfl .i64 .i64 n hl hc (by rw [hz2]; omega) (by omega)
    (hK _ ⟨?_, by simp, fun k hk => ?_, fun i j hi hj _ => ?_, fun i hi => ?_⟩ (World.grownBy_alloc w _ _))
  · rw [List.length_replicate]
    exact Own.lit 33 (toList_madeCells_one _ n) (by simp) hbase (by unfold maxLen; omega)
  · rw [List.length_replicate] at hk
    rw [show vAt (List.replicate n nilV) k = nilV by unfold vAt List.getD; rw [List.getElem?_replicate, if_pos hk]; rfl, show lAt (List.replicate n []) k = [] by unfold lAt List.getD; rw [List.getElem?_replicate, if_pos hk]; rfl]
    exact Own.nil _ _ _
  · rw [List.length_replicate] at hi
    rw [show vAt (List.replicate n nilV) i = nilV by unfold vAt List.getD; rw [List.getElem?_replicate, if_pos hi]; rfl]
    exact .inl rfl
  · rw [List.length_replicate] at hi
    rw [show vAt (List.replicate n nilV) i = nilV by unfold vAt List.getD; rw [List.getElem?_replicate, if_pos hi]; rfl]
    exact dj_ge fun a b _ hb => by cases hb
end
theorem vAt_set {us : List Value} {k i : Nat} {x : Value} (h : k < us.length) : vAt (us.set k x) i = if i = k then x else vAt us i := by
  unfold vAt List.getD
  by_cases e : i = k
  · subst e; rw [List.getElem?_set_self h, if_pos rfl]; rfl
  · rw [List.getElem?_set_ne (fun e' => e e'.symm), if_neg e]
/-- a row stored: it lies in blocks of its own -/
theorem OwnSS.put {w : World} {B g n cap : Nat} {us : List Value} {L : List (List Int)} {x : Value} {l : List Int} (h : OwnSS w B (.slice (some ⟨g, 0, none⟩) n cap) us L) (hn : n = us.length) {k : Nat} (hk : k < L.length) (hx : Own w B 1 x l.length (ints l))
    (hxn : ∀ i, x.ownBlock = some i → i ≠ g ∧ ∀ j, j < L.length → (vAt us j).ownBlock ≠ some i) : OwnSS (w.setCell ⟨g, k, none⟩ x) B (.slice (some ⟨g, 0, none⟩) n cap) (us.set k x) (L.set k l) ∧ w.grownBy (w.setCell ⟨g, k, none⟩ x) (some g) := by
  subst hn
  have hu := h.n
  have hs := h.o.stored k x (by omega)
  have hob : (Value.slice (some ⟨g, 0, none⟩) us.length cap).ownBlock = some g := rfl
  have kp : ∀ {y : Value} {m : List Int}, Own w B 1 y m.length (ints m) → Dj (.slice (some ⟨g, 0, none⟩) us.length cap) y → Own (w.setCell ⟨g, k, none⟩ x) B 1 y m.length (ints m) := fun hy hd => hy.kept hs.2 (by have := hd.symm; unfold Dj at this; rw [hob] at this; exact this)
  have hgx : Dj (.slice (some ⟨g, 0, none⟩) us.length cap) x := dj_ge fun i j hi hj e => by rw [hob] at hi; simp only [Option.some.injEq] at hi; exact (hxn j hj).1 (by omega)
  refine ⟨⟨by rw [List.length_set]; exact hs.1, by simp [hu], fun i hi => ?_, fun i j hi hj hij => ?_, fun i hi => ?_⟩, hs.2⟩
  · rw [List.length_set] at hi
    rw [vAt_set (by omega), lAt_set hk]
    by_cases e : i = k
    · rw [if_pos e, if_pos e]; exact kp hx hgx
    · rw [if_neg e, if_neg e]; exact kp (h.r i hi) (h.dv i hi)
  · rw [List.length_set] at hi hj
    rw [vAt_set (by omega), vAt_set (by omega)]
    by_cases e : i = k
    · rw [if_pos e, if_neg (by omega)]
      exact dj_ge fun a b ha hb e2 => (hxn a ha).2 j hj (by rw [hb, e2])
    · rw [if_neg e]
      by_cases e2 : j = k
      · rw [if_pos e2]
        exact dj_ge fun a b ha hb e3 => (hxn b hb).2 i hi (by rw [ha, e3])
      · rw [if_neg e2]; exact h.dj i j hi hj hij
  · rw [List.length_set] at hi
    rw [vAt_set (by omega)]
    by_cases e : i = k
    · rw [if_pos e]; exact hgx
    · rw [if_neg e]; exact h.dv i hi
def setL (L : List (List Int)) (k : Nat) : List (List Int) := L.take k ++ List.replicate (L.length - k) []
theorem setL_len {L : List (List Int)} {k : Nat} (h : k ≤ L.length) : (setL L k).length = L.length := by unfold setL; rw [List.length_append, List.length_take, List.length_replicate]; omega
theorem setL_0 (L : List (List Int)) : setL L 0 = List.replicate L.length [] := by simp [setL]
theorem setL_end (L : List (List Int)) : setL L L.length = L := by simp [setL]
theorem setL_succ {L : List (List Int)} {k : Nat} (h : k < L.length) : setL L (k + 1) = (setL L k).set k (lAt L k) := by
  apply List.ext_getElem?
  intro j
  rw [lAt_eq h]
  by_cases e : j = k
  · subst e
    rw [List.getElem?_set_self (by rw [setL_len (by omega)]; exact h)]
    unfold setL
    rw [List.getElem?_append_left (by rw [List.length_take]; omega), List.getElem?_take, if_pos (by omega), List.getElem?_eq_getElem h]
  · rw [List.getElem?_set_ne (Ne.symm e)]
    unfold setL
    by_cases hj : j < k
    · rw [List.getElem?_append_left (by rw [List.length_take]; omega), List.getElem?_append_left (by rw [List.length_take]; omega), List.getElem?_take, List.getElem?_take, if_pos (by omega), if_pos (by omega)]
    · rw [List.getElem?_append_right (by rw [List.length_take]; omega), List.getElem?_append_right (by rw [List.length_take]; omega), List.getElem?_replicate, List.getElem?_replicate, List.length_take, List.length_take]
      by_cases h2 : j < L.length
      · rw [if_pos (by omega), if_pos (by omega)]
      · rw [if_neg (by omega), if_neg (by omega)]
theorem OwnSS.lt {w : World} {B : Nat} {v : Value} {us : List Value} {L : List (List Int)} (h : OwnSS w B v us L) {j i : Nat} (hj : j < L.length) (e : (vAt us j).ownBlock = some i) : i < w.heap.size := ((h.r j hj).ge i e).2
set_option maxRecDepth 100000 in
set_option maxHeartbeats 4000000 in
theorem toss_ret {v : Value} {us : List Value} {L : List (List Int)} (w : World) (h : AtSS w v us L) (hm : SSmall L) :
    Calls Try.prog 50 #[v] w fun e w' => ∃ u us', e = .returned u ∧ OwnSS w' w.heap.size u us' L ∧ Below w.heap.size w w' := by
  have hh := h
  obtain ⟨ao, cap, rfl, hc⟩ := h.o.cells1
  have hn := h.n
  have hLm := hm.n
  rw [hn] at hc ⊢
  clear h
  go_enter Try.func50, Try.ntmps50
  go_wp2_with (with_reducible refine make_ss (o := ⟨some 7, _, _, _, _, _⟩) _ rfl _ _ rfl w.heap.size L.length rfl rfl (by omega) (Nat.le_refl _) ?_)
  intro w1 hown hg
  have hbl : Below w.heap.size w w1 := (Below.refl _ _).grown hg (Nat.le_refl _) (fun k h => by cases h)
  rw [← setL_0] at hown
  clear hg
  generalize hBe : w.heap.size = B at *
  have HB := Lib.hid hBe; clear hBe
  go_wp2_with fail
  go_loopw [4] (fun i wr => ∃ k : Nat, k ≤ L.length ∧ i = .int .i64 k ∧ (∃ us', OwnSS wr B (.slice (some ⟨B, 0, none⟩) L.length L.length) us' (setL L k)) ∧ Below B w wr) (fun i _ => L.length - (intOf i).toNat)
  case atStart => exact ⟨0, Nat.zero_le _, rfl, ⟨_, hown⟩, hbl⟩
  case round =>
    obtain ⟨k, hk, rfl, ⟨us', hown⟩, hbl⟩ := hrel
    by_cases hlt : k < L.length
    · obtain ⟨g, off, rfl, hg, hcell⟩ := hc (by omega)
      have c1 := (hbl.cell hg).trans (hcell k (by omega))
      have hra := (hh.r k hlt).below (by rw [HB.out]; exact hbl)
      have hll := hm.l hlt
      have hsl := setL_len (L := L) (k := k) (by omega)
      have HS := Lib.hid (setL_succ hlt)
      have hul : us'.length = L.length := hown.n.trans hsl
      generalize vAt us k = x at c1 hra
      clear hc hcell hh
      go_wp2_with fail
      refine (toints_ret _ hra hll).mono ?_
      rintro e wa ⟨y, rfl, hy, ha⟩
      have hBs : B ≤ wr.heap.size := Nat.le_of_lt (hown.o.ge B rfl).2
      have hownA := hown.belowS ha
      have hbla := hbl.trans (ha.mono hBs)
      have hBa : B ≤ wa.heap.size := Nat.le_trans hBs ha.size
      have hown1 := hownA.o
      rw [hul] at hown1
      have c2 : wa.cell? ⟨B, k, none⟩ = some (vAt us' k) := by rw [hown1.cell (by omega), vAt_get (by omega)]
      have hf := hown1.free k (by omega)
      have hp := hownA.put hul.symm (by rw [hsl]; exact hlt) (hy.mono hBs) (fun i hi => ⟨fun e => by have := (hy.ge i hi).1; have := (hown.o.ge B rfl).2; omega, fun j hj e => by have := (hy.ge i hi).1; have := hown.lt hj e; omega⟩)
      have hyo := slice_one hy.at_
      clear c1 hra ha hown hbl hownA hown1 hy
      go_upto_region 4 with (with_reducible refine store_cell (o := ⟨none, _, _, _, _, _⟩) rfl _ _ _ rfl B k rfl y rfl hyo size_ints c2 hf ?_)
      generalize World.setCell wa _ _ = wn at hp
      obtain ⟨hq, hg2⟩ := hp
      have hbln := hbla.grown hg2 hBa (fun j h => by simp only [Option.some.injEq] at h; omega)
      clear hbla hg2 c2 hf
      go_wp2_with fail
      go_roundw
      case rel =>
        refine ⟨k + 1, by omega, by go_num, ⟨us'.set k y, ?_⟩, hbln⟩
        rw [HS.out]
        exact hq
      case measure => simp [intOf]; omega
    · go_wp2_with fail
      go_ret
      refine ⟨_, us', rfl, ?_, by rw [HB.out]; exact hbl⟩
      rw [show k = L.length by omega, setL_end] at hown
      rw [HB.out]
      exact hown
end Go.Proofs.Ytmamihkcikgmcaa
