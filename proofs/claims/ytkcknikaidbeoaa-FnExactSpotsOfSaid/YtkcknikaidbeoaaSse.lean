/- The laws' own functions on slices of slices of whole numbers: eqIntSS, markIntSS, heldIntSS. -/
import Derived.Test.YtkcknikaidbeoaaWme
import Derived.Test.YtkcknikaidbeoaaLss
namespace Go.Proofs.Ytkcknikaidbeoaa
open Go.RowKit

theorem lAt_set {L : List (List Int)} {k i : Nat} {l : List Int} (h : k < L.length) : lAt (L.set k l) i = if i = k then l else lAt L i := by
  unfold lAt List.getD
  by_cases e : i = k
  · subst e; rw [List.getElem?_set_self h, if_pos rfl]; rfl
  · rw [List.getElem?_set_ne (fun e' => e e'.symm), if_neg e]
/-- one row turned in its own block -/
theorem OwnSS.step {w w' : World} {B : Nat} {v : Value} {us : List Value} {L : List (List Int)} (h : OwnSS w B v us L) {k : Nat} {l : List Int} (hk : k < L.length) (hn : Own w' B 1 (vAt us k) l.length (ints l)) (hg : w.grownBy w' (vAt us k).ownBlock) : OwnSS w' B v us (L.set k l) := by
  refine ⟨h.o.kept hg (h.dv k hk), by rw [List.length_set]; exact h.n, fun i hi => ?_, fun i j hi hj => ?_, fun i hi => ?_⟩
  · rw [List.length_set] at hi
    rw [lAt_set hk]
    by_cases e : i = k
    · subst e; rw [if_pos rfl]; exact hn
    · rw [if_neg e]; exact (h.r i hi).kept hg (h.dj i k hi hk e)
  · rw [List.length_set] at hi hj; exact h.dj i j hi hj
  · rw [List.length_set] at hi; exact h.dv i hi
theorem Own.cells1 {w : World} {base n : Nat} {v : Value} {us : List Value} (h : Own w base 1 v n us) : ∃ ao cap, v = .slice ao n cap ∧ (0 < n → ∃ g, ao = some ⟨g, 0, none⟩ ∧ g < w.heap.size ∧ ∀ k, k < us.length → w.cell? ⟨g, k, none⟩ = some (vAt us k)) := by
  rcases h.val with ⟨rfl, rfl⟩ | ⟨g, cap, rfl, hb, hg, _, _, hc, _⟩
  · exact ⟨_, _, rfl, fun h => absurd h (Nat.lt_irrefl _)⟩
  · have hl := h.len
    exact ⟨_, _, rfl, fun _ => ⟨g, rfl, hg, fun k hk => by rw [hc k (by omega), vAt_get hk]⟩⟩
theorem At.cells1 {w : World} {n : Nat} {v : Value} {us : List Value} (h : At w 1 v n us) : ∃ ao cap, v = .slice ao n cap ∧ (0 < n → ∃ g off, ao = some ⟨g, off, none⟩ ∧ g < w.heap.size ∧ ∀ k, k < us.length → w.cell? ⟨g, off + k, none⟩ = some (vAt us k)) := by
  obtain ⟨hl, ao, cap, rfl, hn, _, hc⟩ := h
  refine ⟨ao, cap, rfl, fun h0 => ?_⟩
  obtain ⟨g, off, rfl, hg, hc⟩ := hc (by omega)
  exact ⟨g, off, rfl, hg, fun k hk => by rw [hc k (by omega), vAt_get hk]⟩
set_option maxRecDepth 100000 in
set_option maxHeartbeats 4000000 in
theorem eqss_ret {va vb : Value} {ua ub : List Value} {L : List (List Int)} (w : World) (ha : AtSS w va ua L) (hb : AtSS w vb ub L) (hm : L.length ≤ 1048576) (hl : ∀ k, k < L.length → (lAt L k).length ≤ 1048576) :
    Calls Try.prog 37 #[va, vb] w fun e w' => e = .returned (.bool true) ∧ Below w.heap.size w w' := by
  have ha0 := ha
  have hb0 := hb
  obtain ⟨ao, cap, rfl, hca⟩ := ha.o.cells1
  obtain ⟨bo, cap2, rfl, hcb⟩ := hb.o.cells1
  have na := ha.n
  have nb := hb.n
  rw [na] at hca ⊢
  rw [nb] at hcb ⊢
  clear ha hb
  go_enter Try.func37, Try.ntmps37
  go_wp2_with fail
  go_loopw [5] (fun i wr => ∃ k : Nat, k ≤ L.length ∧ i = .int .i64 k ∧ Below w.heap.size w wr) (fun i _ => L.length - (intOf i).toNat)
  case atStart => exact ⟨0, Nat.zero_le _, rfl, Below.refl _ _⟩
  case round =>
    obtain ⟨k, hk, rfl, hbl⟩ := hrel
    by_cases hlt : k < L.length
    · obtain ⟨g, off, rfl, hg, hcell⟩ := hca (by omega)
      obtain ⟨g2, off2, rfl, hg2, hcell2⟩ := hcb (by omega)
      have c1 := (hbl.cell hg).trans (hcell k (by omega))
      have c2 := (hbl.cell hg2).trans (hcell2 k (by omega))
      have hra := (ha0.r k hlt).below hbl.drew
      have hrb := (hb0.r k hlt).below hbl.drew
      have hlk := hl k hlt
      obtain ⟨x, hx⟩ : ∃ x, vAt ua k = x := ⟨_, rfl⟩
      obtain ⟨y, hy⟩ : ∃ x, vAt ub k = x := ⟨_, rfl⟩
      rw [hx] at c1 hra
      rw [hy] at c2 hrb
      clear hca hcb hcell hcell2 ha0 hb0 hx hy na nb hl
      go_wp2_with fail
      refine wp_region_tailV 8 (by kernel_rfl) (by kernel_rfl) ?_
      intro OPS HOPS
      simp only [List.take_succ_cons, List.take_zero, List.drop_succ_cons, List.drop_zero]
      repeat still_step
      refine wpStill_nil ?_
      change wpList _ _ _ _ _ wr.drew
      go_wp2_with fail
      refine (eqints_ret wr.drew hra hrb (by omega)).mono ?_
      rintro e wa ⟨rfl, n, hwa⟩
      have hbla : Below w.heap.size w wa := by rw [hwa]; exact below_drewN hbl.drew n
      clear hwa
      go_wp2_with fail
      go_roundw
      case rel => exact ⟨k + 1, by omega, by go_num, hbla⟩
      case measure => simp [intOf]; omega
    · clear hca hcb na nb
      go_wp2_with fail
      go_ret
      exact ⟨rfl, hbl⟩
def sumL (L : List (List Int)) : Nat → Nat
  | 0 => 0
  | k + 1 => sumL L k + (lAt L k).length
theorem sumL_mono (L : List (List Int)) {i : Nat} : ∀ {j : Nat}, i ≤ j → sumL L i ≤ sumL L j
  | 0, h => by rw [Nat.le_zero.1 h]; exact Nat.le_refl _
  | j + 1, h => by
    by_cases e : i = j + 1
    · subst e; exact Nat.le_refl _
    · have := sumL_mono L (i := i) (j := j) (by omega)
      simp only [sumL]; omega
/-- the rows marked so far -/
def mkSS (k0 : Int) (L : List (List Int)) : Nat → List (List Int)
  | 0 => L
  | k + 1 => (mkSS k0 L k).set k (marks (k0 + sumL L k) (lAt L k).length)
theorem mkSS_len (k0 : Int) (L : List (List Int)) : ∀ k, (mkSS k0 L k).length = L.length
  | 0 => rfl
  | k + 1 => by simp only [mkSS, List.length_set, mkSS_len k0 L k]
theorem mkSS_at (k0 : Int) (L : List (List Int)) : ∀ k, k ≤ L.length → ∀ i, lAt (mkSS k0 L k) i = if i < k then marks (k0 + sumL L i) (lAt L i).length else lAt L i
  | 0, _, i => by simp [mkSS]
  | k + 1, h, i => by
    simp only [mkSS]
    rw [lAt_set (by rw [mkSS_len]; omega), mkSS_at k0 L k (by omega) i]
    by_cases e : i = k
    · subst e; rw [if_pos rfl, if_pos (by omega)]
    · rw [if_neg e]
      by_cases h2 : i < k
      · rw [if_pos h2, if_pos (by omega)]
      · rw [if_neg h2, if_neg (by omega)]
def blkSS (v : Value) (us : List Value) (i : Nat) : Prop := v.ownBlock = some i ∨ ∃ k, k < us.length ∧ (vAt us k).ownBlock = some i
theorem OwnSS.ge {w : World} {B : Nat} {v : Value} {us : List Value} {L : List (List Int)} (h : OwnSS w B v us L) : ∀ i, blkSS v us i → B ≤ i ∧ i < w.heap.size := fun i hi => by
  rcases hi with hi | ⟨k, hk, hi⟩
  · exact h.o.ge i hi
  · exact (h.r k (by rw [← h.n]; exact hk)).ge i hi
theorem OwnSS.tch {S : Nat → Prop} {w w' : World} {B : Nat} {v : Value} {us : List Value} {L : List (List Int)} (h : OwnSS w B v us L) (ht : Tch S w w') (hs : ∀ i, blkSS v us i → ¬ S i) : OwnSS w' B v us L :=
  ⟨h.o.tch ht fun i hi => hs i (.inl hi), h.n, fun k hk => (h.r k hk).tch ht fun i hi => hs i (.inr ⟨k, by rw [h.n]; exact hk, hi⟩), h.dj, h.dv⟩
set_option maxRecDepth 100000 in
set_option maxHeartbeats 4000000 in
theorem markss_ret {v : Value} {us : List Value} {L : List (List Int)} {B : Nat} (k0 : Int) (w : World) (h : OwnSS w B v us L) (hm : L.length ≤ 1048576) (h0 : 0 ≤ k0) (h1 : k0 + sumL L L.length ≤ 100000000) :
    Calls Try.prog 39 #[v, .int .i64 k0] w fun e w' => e = .returned (.int .i64 (k0 + sumL L L.length)) ∧ OwnSS w' B v us (mkSS k0 L L.length) ∧ Tch (blkSS v us) w w' := by
  have hn := h.n
  have HSM := Lib.hid (fun i j => sumL_mono L (i := i) (j := j))
  have HS : Hid (∀ k, sumL L (k + 1) = sumL L k + (lAt L k).length) := Lib.hid fun k => rfl
  have HAT := Lib.hid (mkSS_at k0 L)
  have HLN := Lib.hid (mkSS_len k0 L)
  have HST : Hid (∀ k, mkSS k0 L (k + 1) = (mkSS k0 L k).set k (marks (k0 + sumL L k) (lAt L k).length)) := Lib.hid fun k => rfl
  have hO0 : OwnSS w B v us (mkSS k0 L 0) := h
  have hz : sumL L 0 = 0 := rfl
  generalize sumL L = S at *
  generalize mkSS k0 L = M at *
  obtain ⟨ao, cap, rfl, hc⟩ := h.o.cells1
  rw [hn] at hO0 ⊢
  have HU := Lib.hid hn
  clear hn
  clear hc h
  go_enter Try.func39, Try.ntmps39
  go_wp2_with fail
  go_loopw [1, 5] (fun q i wr => ∃ (k : Nat) (m : Int), k ≤ L.length ∧ q = .int .i64 m ∧ Hid (m = k0 + S k) ∧ i = .int .i64 k ∧ OwnSS wr B (.slice ao L.length cap) us (M k) ∧ Tch (blkSS (.slice ao L.length cap) us) w wr) (fun _ i _ => L.length - (intOf i).toNat)
  case atStart => exact ⟨0, k0, Nat.zero_le _, rfl, Lib.hid (by rw [hz]; simp), rfl, hO0, Tch.refl _ _⟩
  case round =>
    clear hz hO0
    obtain ⟨k, m, hk, rfl, HM, rfl, hO, ht⟩ := hrel
    by_cases hlt : k < L.length
    · obtain ⟨ao', cap', hv, hcl⟩ := hO.o.cells1
      simp only [Value.slice.injEq] at hv
      obtain ⟨rfl, hq, rfl⟩ := hv
      clear hq
      obtain ⟨g, rfl, hg, hcell⟩ := hcl (by rw [HU.out]; omega)
      have c1 := hcell k (by rw [HU.out]; exact hlt)
      have hr := hO.r k (by rw [HLN.out]; exact hlt)
      rw [HAT.out k hk k, if_neg (by omega)] at hr
      have hmm : 0 ≤ m ∧ m ≤ 100000000 ∧ (lAt L k).length ≤ 100000000 := by
        have e1 := HM.out
        have e2 := HS.out k
        have e3 := HSM.out (k + 1) L.length (by omega)
        omega
      obtain ⟨x, hx⟩ : ∃ x, vAt us k = x := ⟨_, rfl⟩
      rw [hx] at c1 hr
      have HX := Lib.hid hx
      clear hcl hcell hx
      go_wp2_with fail
      refine (markints2_ret m _ hr (by omega) hmm.1 hmm.2.1).mono ?_
      rintro e wa ⟨rfl, hown, hgr⟩
      have hO2 : OwnSS wa B (.slice (some ⟨g, 0, none⟩) L.length cap) us (M (k + 1)) := by
        rw [HST.out k, ← HM.out]
        refine hO.step (by rw [HLN.out]; exact hlt) ?_ (by rw [HX.out]; exact hgr)
        rw [HX.out]; exact hown
      have ht2 := ht.trans (Tch.of_grown (S := blkSS (.slice (some ⟨g, 0, none⟩) L.length cap) us) hgr (fun i hi => .inr ⟨k, by rw [HU.out]; exact hlt, by rw [HX.out]; exact hi⟩))
      go_wp2_with fail
      go_roundw
      case rel => exact ⟨k + 1, m + ((lAt L k).length : Int), by omega, by first | rfl | go_num, Lib.hid (by have a1 := HS.out k; have a2 := HM.out; omega), by go_num, hO2, ht2⟩
      case measure => simp [intOf]; omega
    · obtain rfl : k = L.length := by omega
      have HQ := HM.out
      go_wp2_with fail
      go_ret
      exact ⟨by first | exact ret_int HQ | rfl, hO, ht⟩
set_option maxRecDepth 100000 in
set_option maxHeartbeats 4000000 in
theorem heldss_ret {v : Value} {us : List Value} {L : List (List Int)} (k0 : Int) (w : World) (h : AtSS w v us (mkSS k0 L L.length)) (hm : L.length ≤ 1048576) (h0 : 0 ≤ k0) (h1 : k0 + sumL L L.length ≤ 100000000) :
    Calls Try.prog 40 #[v, .int .i64 k0] w fun e w' => e = .returned (.int .i64 (k0 + sumL L L.length)) ∧ w = w' := by
  have hn := h.n
  rw [mkSS_len] at hn
  have HSM := Lib.hid (fun i j => sumL_mono L (i := i) (j := j))
  have HS : Hid (∀ k, sumL L (k + 1) = sumL L k + (lAt L k).length) := Lib.hid fun k => rfl
  have HAT : Hid (∀ k, k < L.length → At w 1 (vAt us k) (marks (k0 + sumL L k) (lAt L k).length).length ((marks (k0 + sumL L k) (lAt L k).length).map (Value.int .i64))) := Lib.hid fun k hk => by
    have := h.r k (by rw [mkSS_len]; exact hk)
    rw [mkSS_at k0 L _ (Nat.le_refl _) k, if_pos hk] at this
    exact this
  have hz : sumL L 0 = 0 := rfl
  generalize sumL L = S at *
  obtain ⟨ao, cap, rfl, hc⟩ := h.o.cells1
  rw [hn] at hc ⊢
  have HU := Lib.hid hn
  clear h hn
  go_enter Try.func40, Try.ntmps40
  go_wp2_with fail
  go_loop [1, 5] (fun q i => ∃ (k : Nat) (m : Int), k ≤ L.length ∧ q = .int .i64 m ∧ Hid (m = k0 + S k) ∧ i = .int .i64 k) (fun _ i => L.length - (intOf i).toNat)
  case atStart => exact ⟨0, k0, Nat.zero_le _, rfl, Lib.hid (by rw [hz]; simp), rfl⟩
  case round =>
    clear hz
    obtain ⟨k, m, hk, rfl, HM, rfl⟩ := hrel
    by_cases hlt : k < L.length
    · obtain ⟨g, off, rfl, hg, hcell⟩ := hc (by omega)
      have c1 := hcell k hlt
      have hr := HAT.out k hlt
      rw [← HM.out] at hr
      have hmm : 0 ≤ m ∧ m ≤ 100000000 ∧ (lAt L k).length ≤ 100000000 ∧ 0 ≤ m + ((lAt L k).length : Int) := by
        have e1 := HM.out
        have e2 := HS.out k
        have e3 := HSM.out (k + 1) L.length (by omega)
        omega
      obtain ⟨hm0, hm1, hm2, hm3⟩ := hmm
      obtain ⟨x, hx⟩ : ∃ x, vAt us k = x := ⟨_, rfl⟩
      rw [hx] at c1 hr
      clear hc hcell hx
      go_wp2_with fail
      refine (heldints2_ret m _ hr (by omega) hm0 hm1).mono ?_
      rintro e wa ⟨rfl, rfl⟩
      have n1 : decide (m + ((lAt L k).length : Int) < 0) = false := decide_eq_false (by omega)
      go_wp2_with fail
      go_round
      case rel => exact ⟨k + 1, m + ((lAt L k).length : Int), by omega, by first | rfl | go_num, Lib.hid (by have a1 := HS.out k; have a2 := HM.out; omega), by go_num⟩
      case measure => simp [intOf]; omega
    · obtain rfl : k = L.length := by omega
      have HQ := HM.out
      go_wp2_with fail
      go_ret
      exact ⟨by first | exact ret_int HQ | rfl, rfl⟩
end Go.Proofs.Ytkcknikaidbeoaa
