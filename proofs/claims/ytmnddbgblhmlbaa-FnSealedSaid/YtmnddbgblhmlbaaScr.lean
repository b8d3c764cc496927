/- ScriptInput: the program's and the reference's return the same plain function; how a readable slice is carried along. -/
import Derived.Test.YtmnddbgblhmlbaaInts
namespace Go.Proofs.Ytmnddbgblhmlbaa
open Go.RowKit

theorem At.below {w w' : World} {sz : Nat} {v : Value} {n : Nat} {cs : List Value} (h : At w sz v n cs) (hb : Below w.heap.size w w') : At w' sz v n cs := by
  obtain ⟨hl, ao, cap, rfl, hn, hm, hc⟩ := h
  refine ⟨hl, ao, cap, rfl, hn, hm, fun h0 => ?_⟩
  obtain ⟨g, off, rfl, hg, hc⟩ := hc h0
  exact ⟨g, off, rfl, Nat.lt_of_lt_of_le hg hb.size, fun j hj => (hb.cell hg).trans (hc j hj)⟩
theorem below_drewN {B : Nat} {a w : World} (h : Below B a w) (k : Nat) : Below B a (w.drewN k) := ⟨h.os, h.tape, h.output, h.size, h.block⟩
def scrOk (l : List Int) : Bool := decide (1 ≤ l.length) && okT l
set_option maxHeartbeats 400000 in
theorem script_impl {v : Value} {l : List Int} (w : World) (h : At w 1 v l.length (l.map (Value.int .i64))) (hm : l.length ≤ 1099511627776) :
    Calls Try.prog 68 #[v] w fun e w' => e = .returned (.bool (scrOk l)) ∧ w = w' := by
  by_cases h1 : 1 ≤ l.length
  · by_cases h2 : l.length ≤ 400
    · have HS : Hid (scrOk l = okIn l) := Lib.hid (by unfold scrOk okT; rw [decide_eq_true h1, decide_eq_true h2]; rfl)
      have h' := h
      obtain ⟨ao, cap, rfl, hc⟩ := h.cell
      clear hc
      go_enter Try.func68, Try.ntmps68
      go_wp2_with fail
      refine (inputs_impl _ h' hm).mono ?_
      rintro e w1 ⟨rfl, rfl⟩
      go_wp2_with fail
      go_ret
      exact ⟨ret_bool (by rw [HS.out]), rfl⟩
    · have HS : Hid (scrOk l = false) := Lib.hid (by unfold scrOk okT; rw [decide_eq_false h2]; simp)
      obtain ⟨ao, cap, rfl, hc⟩ := h.cell
      clear hc
      go_enter Try.func68, Try.ntmps68
      go_wp2_with fail
      go_ret
      exact ⟨ret_bool (by rw [HS.out]), rfl⟩
  · have HS : Hid (scrOk l = false) := Lib.hid (by unfold scrOk; rw [decide_eq_false h1]; rfl)
    obtain ⟨ao, cap, rfl, hc⟩ := h.cell
    clear hc
    go_enter Try.func68, Try.ntmps68
    go_wp2_with fail
    go_ret
    exact ⟨ret_bool (by rw [HS.out]), rfl⟩
theorem scrT_bad {l : List Int} {d t : Int} (h : scrOk l = false ∨ inB d 0 5 = false ∨ t < 0) : scrT l d t = -1 := by
  unfold scrT
  refine if_neg fun ⟨h1, h2, h3, h4, h5⟩ => ?_
  rcases h with h | h | h
  · unfold scrOk at h
    rw [decide_eq_true h1, h2] at h
    cases h
  · rw [inB_yes h3 h4] at h
    cases h
  · omega
theorem scrOk_len {l : List Int} (h : scrOk l = true) : 1 ≤ l.length ∧ l.length ≤ 400 ∧ okIn l = true := by
  unfold scrOk okT at h
  simp only [Bool.and_eq_true, decide_eq_true_eq] at h
  exact ⟨h.1, h.2.1, h.2.2⟩
theorem scrT_ok {l : List Int} {d t : Int} (h : scrOk l = true) (hd : inB d 0 5 = true) (ht : 0 ≤ t) : scrT l d t = if t < d then 0 else l.getD ((t - d) % (l.length : Int)).toNat 0 := by
  have h' := h
  unfold scrOk at h'
  simp only [Bool.and_eq_true, decide_eq_true_eq] at h'
  obtain ⟨h3, h4⟩ := inB_iff.1 hd
  unfold scrT
  exact if_pos ⟨h'.1, h'.2, h3, h4, ht⟩
theorem scrOk_of {l : List Int} (h1 : 1 ≤ l.length) (h2 : l.length ≤ 400) (h3 : okIn l = true) : scrOk l = true := by
  unfold scrOk okT
  rw [decide_eq_true h1, decide_eq_true h2, h3]
  rfl
theorem scrOk_no {l : List Int} (h : inB (l.length : Int) 1 400 = false ∨ okIn l = false) : scrOk l = false := by
  cases hs : scrOk l
  · rfl
  · obtain ⟨h1, h2, h3⟩ := scrOk_len hs
    rcases h with h | h
    · rw [inB_yes (by omega) (by omega)] at h; cases h
    · rw [h3] at h; cases h
set_option maxHeartbeats 1000000 in
theorem scr_impl {v : Value} {l : List Int} (d t : Int) (w : World) (hd : (Lit.int .i64 d).wf = true) (ht : (Lit.int .i64 t).wf = true) (h : At w 1 v l.length (l.map (Value.int .i64))) (hm : l.length ≤ 1048576) :
    Calls Try.prog 21 #[v, .int .i64 d, .int .i64 t] w fun e w' => e = .returned (.int .i64 (scrT l d t)) ∧ w = w' := by
  have hdb := Go.bounds_i64 hd
  have htb := Go.bounds_i64 ht
  have h' := h
  obtain ⟨ao, cap, rfl, hc⟩ := h.cell
  have hm2 : l.length ≤ 1099511627776 := by omega
  have HSC : ∀ wx : World, At wx 1 (.slice ao l.length cap) l.length (l.map (Value.int .i64)) → Calls Try.prog 68 #[.slice ao l.length cap] wx fun e w' => e = .returned (.bool (scrOk l)) ∧ wx = w' := fun wx hx => script_impl wx hx hm2
  cases hs : scrOk l with
  | false =>
    have HT := Lib.hid (scrT_bad (d := d) (t := t) (.inl hs))
    rw [hs] at HSC
    clear hc hs
    go_enter Try.func21, Try.ntmps21
    go_wp2_with fail
    refine (HSC _ h').mono ?_
    rintro e w1 ⟨rfl, rfl⟩
    go_wp2_with fail
    go_ret
    exact ⟨ret_int (by rw [HT.out]), rfl⟩
  | true =>
    rw [hs] at HSC
    cases hi : inB d 0 5 with
    | false =>
      have HT := Lib.hid (scrT_bad (l := l) (t := t) (.inr (.inl hi)))
      clear hc hs
      go_enter Try.func21, Try.ntmps21
      go_wp2_with fail
      refine (HSC _ h').mono ?_
      rintro e w1 ⟨rfl, rfl⟩
      go_wp2_with fail
      refine (between_any _ _ _ _).mono ?_
      rintro e w1 ⟨rfl, rfl⟩
      go_wp2_with fail
      go_ret
      exact ⟨ret_int (by rw [HT.out]), rfl⟩
    | true =>
      have HI := inB_iff.1 hi
      by_cases h0 : t < 0
      · have HT := Lib.hid (scrT_bad (l := l) (d := d) (.inr (.inr h0)))
        clear hc hs
        go_enter Try.func21, Try.ntmps21
        go_wp2_with fail
        refine (HSC _ h').mono ?_
        rintro e w1 ⟨rfl, rfl⟩
        go_wp2_with fail
        refine (between_any _ _ _ _).mono ?_
        rintro e w1 ⟨rfl, rfl⟩
        go_wp2_with fail
        go_ret
        exact ⟨ret_int (by rw [HT.out]), rfl⟩
      · by_cases hlt : t < d
        · have HT := Lib.hid ((scrT_ok hs hi (by omega)).trans (if_pos hlt))
          clear hc hs
          go_enter Try.func21, Try.ntmps21
          go_wp2_with fail
          refine (HSC _ h').mono ?_
          rintro e w1 ⟨rfl, rfl⟩
          go_wp2_with fail
          refine (between_any _ _ _ _).mono ?_
          rintro e w1 ⟨rfl, rfl⟩
          go_wp2_with fail
          go_ret
          exact ⟨ret_int (by rw [HT.out]), rfl⟩
        · have hl0 := (scrOk_len hs).1
          obtain ⟨g, off, rfl, hg, hcell⟩ := hc (by omega)
          clear hc
          have hb : ((l.length : Int) == 0) = false := beq_eq_false_iff_ne.2 (by omega)
          have m1 : 0 ≤ (t - d) % (l.length : Int) := Int.emod_nonneg _ (by omega)
          have m2 : (t - d) % (l.length : Int) < (l.length : Int) := Int.emod_lt_of_pos _ (by omega)
          have mn : ((t - d) % (l.length : Int)).toNat < l.length := by omega
          have c1 := hcell _ mn
          have HT : Hid (scrT l d t = l[((t - d) % (l.length : Int)).toNat]'mn) := Lib.hid (by
            rw [scrT_ok hs hi (by omega), if_neg hlt]; simp [List.getD, List.getElem?_eq_getElem mn])
          clear hs hcell
          go_enter Try.func21, Try.ntmps21
          go_wp2_with fail
          refine (HSC _ h').mono ?_
          rintro e w1 ⟨rfl, rfl⟩
          go_wp2_with fail
          refine (between_any _ _ _ _).mono ?_
          rintro e w1 ⟨rfl, rfl⟩
          go_wp2_with fail
          go_ret
          exact ⟨ret_int (by rw [HT.out]), rfl⟩
set_option maxHeartbeats 1000000 in
theorem scr_spec {v : Value} {l : List Int} (d t : Int) (w : World) (hd : (Lit.int .i64 d).wf = true) (ht : (Lit.int .i64 t).wf = true) (h : At w 1 v l.length (l.map (Value.int .i64))) (hm : l.length ≤ 1048576) :
    Calls Try.prog 19 #[v, .int .i64 d, .int .i64 t] w fun e w' => e = .returned (.int .i64 (scrT l d t)) ∧ w = w' := by
  have hdb := Go.bounds_i64 hd
  have htb := Go.bounds_i64 ht
  have h' := h
  obtain ⟨ao, cap, rfl, hc⟩ := h.cell
  have hm2 : l.length ≤ 1099511627776 := by omega
  have HSC : ∀ wx : World, At wx 1 (.slice ao l.length cap) l.length (l.map (Value.int .i64)) → Calls Try.prog 67 #[.slice ao l.length cap] wx fun e w' => e = .returned (.bool (okIn l)) ∧ wx = w' := fun wx hx => inputs_spec wx hx hm2
  cases hn : inB (l.length : Int) 1 400 with
  | false =>
    have HT := Lib.hid (scrT_bad (d := d) (t := t) (.inl (scrOk_no (.inl hn))))
    clear hc
    go_enter Try.func19, Try.ntmps19
    go_wp2_with fail
    refine (in_any _ _ _ _).mono ?_
    rintro e w1 ⟨rfl, rfl⟩
    go_wp2_with fail
    go_ret
    exact ⟨ret_int (by rw [HT.out]), rfl⟩
  | true =>
    have hnb := inB_iff.1 hn
    cases hs : okIn l with
    | false =>
      have HT := Lib.hid (scrT_bad (d := d) (t := t) (.inl (scrOk_no (.inr hs))))
      rw [hs] at HSC
      clear hc hs
      go_enter Try.func19, Try.ntmps19
      go_wp2_with fail
      refine (in_any _ _ _ _).mono ?_
      rintro e w1 ⟨rfl, rfl⟩
      go_wp2_with fail
      refine (HSC _ h').mono ?_
      rintro e w1 ⟨rfl, rfl⟩
      go_wp2_with fail
      go_ret
      exact ⟨ret_int (by rw [HT.out]), rfl⟩
    | true =>
      rw [hs] at HSC
      have HSO := Lib.hid (scrOk_of (l := l) (by omega) (by omega) hs)
      clear hs
      cases hi : inB d 0 5 with
      | false =>
        have HT := Lib.hid (scrT_bad (l := l) (t := t) (.inr (.inl hi)))
        clear hc
        go_enter Try.func19, Try.ntmps19
        go_wp2_with fail
        refine (in_any _ _ _ _).mono ?_
        rintro e w1 ⟨rfl, rfl⟩
        go_wp2_with fail
        refine (HSC _ h').mono ?_
        rintro e w1 ⟨rfl, rfl⟩
        go_wp2_with fail
        refine (in_any _ _ _ _).mono ?_
        rintro e w1 ⟨rfl, rfl⟩
        go_wp2_with fail
        go_ret
        exact ⟨ret_int (by rw [HT.out]), rfl⟩
      | true =>
        have HI := inB_iff.1 hi
        by_cases h0 : t < 0
        · have HT := Lib.hid (scrT_bad (l := l) (d := d) (.inr (.inr h0)))
          clear hc
          go_enter Try.func19, Try.ntmps19
          go_wp2_with fail
          refine (in_any _ _ _ _).mono ?_
          rintro e w1 ⟨rfl, rfl⟩
          go_wp2_with fail
          refine (HSC _ h').mono ?_
          rintro e w1 ⟨rfl, rfl⟩
          go_wp2_with fail
          refine (in_any _ _ _ _).mono ?_
          rintro e w1 ⟨rfl, rfl⟩
          go_wp2_with fail
          go_ret
          exact ⟨ret_int (by rw [HT.out]), rfl⟩
        · by_cases hlt : t < d
          · have HT := Lib.hid ((scrT_ok HSO.out hi (by omega)).trans (if_pos hlt))
            clear hc
            go_enter Try.func19, Try.ntmps19
            go_wp2_with fail
            refine (in_any _ _ _ _).mono ?_
            rintro e w1 ⟨rfl, rfl⟩
            go_wp2_with fail
            refine (HSC _ h').mono ?_
            rintro e w1 ⟨rfl, rfl⟩
            go_wp2_with fail
            refine (in_any _ _ _ _).mono ?_
            rintro e w1 ⟨rfl, rfl⟩
            go_wp2_with fail
            go_ret
            exact ⟨ret_int (by rw [HT.out]), rfl⟩
          · obtain ⟨g, off, rfl, hg, hcell⟩ := hc (by omega)
            clear hc
            have hb : ((l.length : Int) == 0) = false := beq_eq_false_iff_ne.2 (by omega)
            have m1 : 0 ≤ (t - d) % (l.length : Int) := Int.emod_nonneg _ (by omega)
            have m2 : (t - d) % (l.length : Int) < (l.length : Int) := Int.emod_lt_of_pos _ (by omega)
            have mn : ((t - d) % (l.length : Int)).toNat < l.length := by omega
            have c1 := hcell _ mn
            have HT : Hid (scrT l d t = l[((t - d) % (l.length : Int)).toNat]'mn) := Lib.hid (by
              rw [scrT_ok HSO.out hi (by omega), if_neg hlt]; simp [List.getD, List.getElem?_eq_getElem mn])
            clear hcell
            go_enter Try.func19, Try.ntmps19
            go_wp2_with fail
            refine (in_any _ _ _ _).mono ?_
            rintro e w1 ⟨rfl, rfl⟩
            go_wp2_with fail
            refine (HSC _ h').mono ?_
            rintro e w1 ⟨rfl, rfl⟩
            go_wp2_with fail
            refine (in_any _ _ _ _).mono ?_
            rintro e w1 ⟨rfl, rfl⟩
            go_wp2_with fail
            go_ret
            exact ⟨ret_int (by rw [HT.out]), rfl⟩
end Go.Proofs.Ytmnddbgblhmlbaa
