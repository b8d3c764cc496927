/- PackTrack: the program's and the reference's return the same plain function. -/
import Derived.Test.YtmnddbgblhmlbaaScr
import Derived.Test.YtmnddbgblhmlbaaZer
import Derived.BigQuiet
import Derived.Deep.DeepCutAuto
import Derived.Deep.CutBlock
namespace Go.Proofs.Ytmnddbgblhmlbaa
open Go.RowKit

theorem okT_no {l : List Int} (h : 400 < l.length ∨ okIn l = false) : trkT l = ⟨#[]⟩ := by
  unfold trkT okT
  rcases h with h | h
  · rw [decide_eq_false (by omega)]; rfl
  · rw [h, Bool.and_false]; rfl
theorem okT_yes {l : List Int} (h1 : l.length ≤ 400) (h2 : okIn l = true) : trkT l = ⟨(tk l).toArray⟩ := by
  unfold trkT okT
  rw [decide_eq_true h1, h2]
  rfl
theorem drop_get {l : List Int} {k j : Nat} (h : k + j < l.length) (hj : j < (l.drop k).length) : (l.drop k)[j]'hj = l[k + j]'h := by simp
/-- the run that begins at k, read as far as q -/
def runTo (l : List Int) (k q : Nat) : Prop := k ≤ q ∧ q - k ≤ rn (l.drop k)
theorem rn_pos {l : List Int} {k : Nat} (h : k < l.length) : 1 ≤ rn (l.drop k) := rn_one (by intro e; have := congrArg List.length e; rw [List.length_drop] at this; simp at this; omega)
theorem runTo_more {l : List Int} {k q : Nat} {hk : k < l.length} {hq : q < l.length} (h : runTo l k q) (he : l[q]'hq = l[k]'hk) : runTo l k (q + 1) := by
  unfold runTo at *
  have hp := rn_pos hk
  have h0 : 0 < (l.drop k).length := by rw [List.length_drop]; omega
  have h1 : q - k < (l.drop k).length := by rw [List.length_drop]; omega
  by_cases e : q = k
  · omega
  have := rn_more (L := l.drop k) (h0 := h0) (hj := h1) h.2 (by omega) (by
    rw [drop_get (by omega) h1, drop_get (by omega) h0]
    simp only [show k + (q - k) = q by omega, Nat.add_zero]
    exact he)
  omega
theorem runTo_stop {l : List Int} {k q : Nat} {hk : k < l.length} (h : runTo l k q) (he : ∀ hq : q < l.length, ¬ l[q]'hq = l[k]'hk) : q = k + rn (l.drop k) := by
  unfold runTo at h
  have h0 : 0 < (l.drop k).length := by rw [List.length_drop]; omega
  by_cases e : q = k
  · subst e
    exact absurd rfl (he hk)
  have := rn_stop (L := l.drop k) (j := q - k) (h0 := h0) h.2 (by omega) (fun hj => by
    have hj' := hj
    rw [List.length_drop] at hj'
    rw [drop_get (by omega) hj, drop_get (by omega) h0]
    simp only [show k + (q - k) = q by omega, Nat.add_zero]
    exact he (by omega))
  omega
theorem run_end {l : List Int} {k q : Nat} (hk : k < l.length) (hq : q = k + rn (l.drop k)) : k < q ∧ q ≤ l.length := by
  have h1 := rn_le (l.drop k)
  rw [List.length_drop] at h1
  have h2 := rn_pos hk
  omega
theorem tkq_next {l : List Int} {k q : Nat} {t : List UInt8} (h : tk l = t ++ tk (l.drop k)) (hk : k < l.length) (hq : q = k + rn (l.drop k)) :
    tk l = (t ++ encV (l[k]'hk + 16 * ((q : Int) - (k : Int)))) ++ tk (l.drop q) := by
  have := tk_next h hk
  rw [hq]
  rw [show ((k + rn (l.drop k) : Nat) : Int) - (k : Int) = (rn (l.drop k) : Nat) by omega]
  exact this

theorem enc_in (l : List Int) (k q : Nat) (hk : k < l.length) (hok : okIn l = true) (h4 : l.length ≤ 400) (hq : q ≤ l.length) (hkq : k < q) : 0 ≤ l[k]'hk + 16 * ((q : Int) - (k : Int)) ∧ l[k]'hk + 16 * ((q : Int) - (k : Int)) ≤ 10000 ∧ 0 ≤ l[k]'hk ∧ l[k]'hk ≤ 15 := by
  have := okIn_at hok hk
  omega

set_option maxRecDepth 100000 in
set_option maxHeartbeats 4000000 in
theorem trk_impl {v : Value} {l : List Int} (w : World) (h : At w 1 v l.length (l.map (Value.int .i64))) (hm : l.length ≤ 1048576) :
    Calls Try.prog 38 #[v] w fun e w' => e = .returned (.string (trkT l)) ∧ Below w.heap.size w w' := by
  have h' := h
  obtain ⟨ao, cap, rfl, hc⟩ := h.cell
  by_cases h4 : 400 < l.length
  · have HN := Lib.hid (okT_no (.inl h4))
    clear hc
    go_enter Try.func38, Try.ntmps38
    go_wp2_with fail
    go_ret
    exact ⟨by rw [HN.out]; rfl, Below.refl _ _⟩
  have HI : ∀ wx, At wx 1 (.slice ao l.length cap) l.length (l.map (Value.int .i64)) → Calls Try.prog 71 #[.slice ao l.length cap] wx fun e w' => e = .returned (.bool (okIn l)) ∧ wx = w' := fun wx hx => inputs_impl wx hx (by omega)
  cases hok : okIn l with
  | false =>
    have HN := Lib.hid (okT_no (.inr hok))
    rw [hok] at HI
    clear hc hok
    go_enter Try.func38, Try.ntmps38
    go_wp2_with fail
    refine (HI _ h').mono ?_
    rintro e w1 ⟨rfl, rfl⟩
    go_wp2_with fail
    go_ret
    exact ⟨by rw [HN.out]; rfl, Below.refl _ _⟩
  | true =>
    have HT := Lib.hid (okT_yes (by omega) hok)
    rw [hok] at HI
    have HOK := Lib.hid hok
    clear hok
    go_enter Try.func38, Try.ntmps38
    go_wp2_with fail
    refine (HI _ h').mono ?_
    rintro e w1 ⟨rfl, rfl⟩
    go_wp2_with fail
    go_loopw [3, 4] (fun v i wr => ∃ (k : Nat) (t : List UInt8), k ≤ l.length ∧ i = .int .i64 k ∧ t.length ≤ 6 * k ∧ Own wr w.heap.size 1 v t.length (u8s t) ∧ Hid (tk l = t ++ tk (l.drop k)) ∧ Below w.heap.size w wr) (fun _ i _ => l.length - (intOf i).toNat)
    case atStart => exact ⟨0, [], Nat.zero_le _, rfl, Nat.le_refl _, Own.nil _ _ _, Lib.hid rfl, Below.refl _ _⟩
    case round =>
      obtain ⟨k, t, hk, rfl, htl, hown, hP, hbl⟩ := hrel
      have hsz := hbl.size
      by_cases hlt : k < l.length
      · obtain ⟨g, off, rfl, hg, hcell⟩ := hc (by omega)
        clear hc
        go_upto_block 2 with (fail)
        go_cut [4] (fun i wx => ∃ q : Nat, k < q ∧ q ≤ l.length ∧ i = .int .i64 q ∧ Hid (q = k + rn (l.drop k)) ∧ ∃ d, wx = wr.drewN d)
        case first =>
          go_wp2_with fail
          go_loopw [4] (fun i wx => ∃ q : Nat, q ≤ l.length ∧ i = .int .i64 q ∧ runTo l k q ∧ ∃ d, wx = wr.drewN d) (fun i _ => l.length - (intOf i).toNat)
          case atStart => exact ⟨k, hk, rfl, ⟨Nat.le_refl _, by omega⟩, 0, rfl⟩
          case round =>
            obtain ⟨q, hq, rfl, hrun, d, rfl⟩ := hrel
            have c2 : wr.cell? ⟨g, off + k, none⟩ = some (.int .i64 (l[k]'hlt)) := (hbl.cell hg).trans (hcell k hlt)
            by_cases hql : q < l.length
            · have c1 : wr.cell? ⟨g, off + q, none⟩ = some (.int .i64 (l[q]'hql)) := (hbl.cell hg).trans (hcell q hql)
              by_cases he : l[q]'hql = l[k]'hlt
              · have HR := Lib.hid (runTo_more hrun he)
                rw [he] at c1
                clear he hcell hrun
                go_wp2_with fail
                go_quiet (fail)
                go_wp2_with fail
                go_roundw
                case rel => exact ⟨q + 1, by omega, by go_num, HR.out, _, rfl⟩
                case measure => simp [intOf]; omega
              · have HQ := Lib.hid (runTo_stop (hk := hlt) hrun (fun _ => he))
                have hb' : (l[q]'hql == l[k]'hlt) = false := beq_eq_false_iff_ne.2 he
                have hkq := run_end hlt HQ.out
                clear hcell hrun
                go_wp2_with fail
                go_quiet (fail)
                go_wp2_with fail
                go_meet
                exact ⟨q, hkq.1, hkq.2, rfl, HQ, (Drawn.mk wr d).trans (Drawn.mk _ _)⟩
            · have HQ := Lib.hid (runTo_stop (hk := hlt) hrun (fun h => absurd h hql))
              have hkq := run_end hlt HQ.out
              clear hcell hrun
              go_wp2_with fail
              go_quiet (fail)
              go_wp2_with fail
              go_meet
              exact ⟨q, hkq.1, hkq.2, rfl, HQ, (Drawn.mk wr d).trans (Drawn.mk _ _)⟩
        case rest =>
          obtain ⟨q, hkq, hq, rfl, HQ, d, rfl⟩ := hcut
          have HN := Lib.hid (tkq_next hP.out hlt HQ.out)
          obtain ⟨e1, e2, e3, e4⟩ := enc_in l k q hlt HOK.out (by omega) hq hkq
          have c2 : wr.cell? ⟨g, off + k, none⟩ = some (.int .i64 (l[k]'hlt)) := (hbl.cell hg).trans (hcell k hlt)
          clear hcell
          have hbl0 := below_drewN hbl d
          have hown0 := hown.drewN d
          have hv := encVar_size (l[k]'hlt + 16 * ((q : Int) - (k : Int)))
          go_wp2_with fail
          refine (enc_impl _ _).mono ?_
          rintro e wa ⟨rfl, ha⟩
          have hown1 : Own wa w.heap.size 1 _ t.length (u8s t) := hown0.below ha (fun g hg => (hown0.ge g hg).2)
          have hbl1 := hbl0.trans (ha.mono hsz)
          have hsz1 := hbl1.size
          go_wp2_with (with_reducible refine app_str (o := ⟨some 47, _, _, _, _, _⟩) wa rfl _ _ rfl w.heap.size hown1 rfl _ rfl (by omega) hsz1 ?_)
          intro v' wb hown2 hg2 _
          have hbl2 := hbl1.trans (hown1.below_of hg2 (Nat.le_refl _) hsz1)
          clear hg2
          have hlen : (t ++ (encVar (l[k]'hlt + 16 * ((q : Int) - (k : Int)))).data.toList).length ≤ 6 * q := by
            rw [List.length_append, bytes_len0]
            omega
          go_wp2_with fail
          exact ⟨⟨q, _, hq, rfl, hlen, hown2.fit, HN, hbl2⟩, by simp [intOf]; omega⟩
      · have hf : Hid (tk l = t) := by
          have := hP.out
          rw [List.drop_of_length_le (by omega), tk_nil, List.append_nil] at this
          exact Lib.hid this
        go_wp2_with (with_reducible refine str_law (o := ⟨some 49, _, _, _, _, _⟩) _ rfl _ rfl hown.at_ rfl ?_)
        go_ret
        exact ⟨by rw [HT.out, hf.out]; rfl, hbl⟩

set_option maxRecDepth 100000 in
set_option maxHeartbeats 4000000 in
theorem trk_spec {v : Value} {l : List Int} (w : World) (h : At w 1 v l.length (l.map (Value.int .i64))) (hm : l.length ≤ 1048576) :
    Calls Try.prog 37 #[v] w fun e w' => e = .returned (.string (trkT l)) ∧ Below w.heap.size w w' := by
  have h' := h
  obtain ⟨ao, cap, rfl, hc⟩ := h.cell
  by_cases h4 : 400 < l.length
  · have HN := Lib.hid (okT_no (.inl h4))
    clear hc
    go_enter Try.func37, Try.ntmps37
    go_wp2_with fail
    go_ret
    exact ⟨by rw [HN.out]; rfl, Below.refl _ _⟩
  have HI : ∀ wx, At wx 1 (.slice ao l.length cap) l.length (l.map (Value.int .i64)) → Calls Try.prog 67 #[.slice ao l.length cap] wx fun e w' => e = .returned (.bool (okIn l)) ∧ wx = w' := fun wx hx => inputs_spec wx hx (by omega)
  cases hok : okIn l with
  | false =>
    have HN := Lib.hid (okT_no (.inr hok))
    rw [hok] at HI
    clear hc hok
    go_enter Try.func37, Try.ntmps37
    go_wp2_with fail
    refine (HI _ h').mono ?_
    rintro e w1 ⟨rfl, rfl⟩
    go_wp2_with fail
    go_ret
    exact ⟨by rw [HN.out]; rfl, Below.refl _ _⟩
  | true =>
    have HT := Lib.hid (okT_yes (by omega) hok)
    rw [hok] at HI
    have HOK := Lib.hid hok
    clear hok
    go_enter Try.func37, Try.ntmps37
    go_wp2_with fail
    refine (HI _ h').mono ?_
    rintro e w1 ⟨rfl, rfl⟩
    go_wp2_with fail
    go_loopw [3, 4] (fun v i wr => ∃ (k : Nat) (t : ByteArray), k ≤ l.length ∧ i = .int .i64 k ∧ t.size ≤ 6 * k ∧ v = .string t ∧ Hid (tk l = t.data.toList ++ tk (l.drop k)) ∧ Below w.heap.size w wr) (fun _ i _ => l.length - (intOf i).toNat)
    case atStart => exact ⟨0, ⟨#[]⟩, Nat.zero_le _, rfl, Nat.le_refl _, rfl, Lib.hid rfl, Below.refl _ _⟩
    case round =>
      obtain ⟨k, t, hk, rfl, htl, rfl, hP, hbl⟩ := hrel
      have hsz := hbl.size
      by_cases hlt : k < l.length
      · obtain ⟨g, off, rfl, hg, hcell⟩ := hc (by omega)
        clear hc
        go_upto_block 2 with (fail)
        go_cut [5] (fun i wx => ∃ m : Nat, 1 ≤ m ∧ k + m ≤ l.length ∧ i = .int .i64 m ∧ Hid (k + m = k + rn (l.drop k)) ∧ ∃ d, wx = wr.drewN d)
        case first =>
          go_wp2_with fail
          go_loopw [5] (fun i wx => ∃ m : Nat, 1 ≤ m ∧ k + m ≤ l.length ∧ i = .int .i64 m ∧ runTo l k (k + m) ∧ ∃ d, wx = wr.drewN d) (fun i _ => l.length - (intOf i).toNat)
          case atStart => exact ⟨1, Nat.le_refl _, hlt, rfl, ⟨by omega, by have := rn_pos hlt; omega⟩, 0, rfl⟩
          case round =>
            obtain ⟨m, hm1, hq, rfl, hrun, d, rfl⟩ := hrel
            have c2 : wr.cell? ⟨g, off + k, none⟩ = some (.int .i64 (l[k]'hlt)) := (hbl.cell hg).trans (hcell k hlt)
            have hw : IntKind.i64.wrap ((k : Int) + (m : Int)) = (k : Int) + (m : Int) := IntWalk.i64_in _ (by omega)
            by_cases hql : k + m < l.length
            · have c1 : wr.cell? ⟨g, off + (k + m), none⟩ = some (.int .i64 (l[k + m]'hql)) := (hbl.cell hg).trans (hcell (k + m) hql)
              have hd : decide ((k : Int) + (m : Int) < (l.length : Int)) = true := decide_eq_true (by omega)
              by_cases he : l[k + m]'hql = l[k]'hlt
              · have HR := Lib.hid (runTo_more hrun he)
                rw [he] at c1
                clear he hcell hrun
                go_wp2_with fail
                go_quiet (fail)
                go_wp2_with fail
                go_roundw
                case rel => exact ⟨m + 1, by omega, by omega, by go_num, HR.out, _, rfl⟩
                case measure => simp [intOf]; omega
              · have HQ := Lib.hid (runTo_stop (hk := hlt) hrun (fun _ => he))
                have hb' : (l[k + m]'hql == l[k]'hlt) = false := beq_eq_false_iff_ne.2 he
                clear hcell hrun
                go_wp2_with fail
                go_quiet (fail)
                go_wp2_with fail
                go_meet
                exact ⟨m, hm1, hq, rfl, HQ, (Drawn.mk wr d).trans (Drawn.mk _ _)⟩
            · have HQ := Lib.hid (runTo_stop (hk := hlt) hrun (fun h => absurd h hql))
              have hd : decide ((k : Int) + (m : Int) < (l.length : Int)) = false := decide_eq_false (by omega)
              clear hcell hrun
              go_wp2_with fail
              go_quiet (fail)
              go_wp2_with fail
              go_meet
              exact ⟨m, hm1, hq, rfl, HQ, (Drawn.mk wr d).trans (Drawn.mk _ _)⟩
        case rest =>
          obtain ⟨m, hm1, hq, rfl, HQ, d, rfl⟩ := hcut
          have hx := tkq_next hP.out hlt HQ.out
          rw [show (((k + m : Nat) : Int) - (k : Int)) = (m : Int) by omega] at hx
          have HN : Hid (tk l = (t ++ encVar (l[k]'hlt + 16 * (m : Int))).data.toList ++ tk (l.drop (k + m))) := Lib.hid (by
            rw [ByteArray.data_append, Array.toList_append]
            exact hx)
          have e4 := enc_in l k (k + m) hlt HOK.out (by omega) hq (by omega)
          rw [show (((k + m : Nat) : Int) - (k : Int)) = (m : Int) by omega] at e4
          obtain ⟨e1, e2, e3, e4⟩ := e4
          have c2 : wr.cell? ⟨g, off + k, none⟩ = some (.int .i64 (l[k]'hlt)) := (hbl.cell hg).trans (hcell k hlt)
          clear hcell hx
          have hbl0 := below_drewN hbl d
          have hv := encVar_size (l[k]'hlt + 16 * (m : Int))
          go_wp2_with fail
          refine (enc_spec _ _).mono ?_
          rintro e wa ⟨rfl, ha⟩
          have hbl1 := hbl0.trans (ha.mono hsz)
          have hlen : (t ++ encVar (l[k]'hlt + 16 * (m : Int))).size ≤ 6 * (k + m) := by
            rw [ByteArray.size_append]
            omega
          go_wp2_with fail
          go_roundw
          case rel => exact ⟨k + m, _, hq, by go_num, hlen, rfl, HN, hbl1⟩
          case measure => simp [intOf]; omega
      · have hf : Hid (tk l = t.data.toList) := by
          have := hP.out
          rw [List.drop_of_length_le (by omega), tk_nil, List.append_nil] at this
          exact Lib.hid this
        go_wp2_with fail
        go_ret
        exact ⟨by rw [HT.out, hf.out]; rfl, hbl⟩
end Go.Proofs.Ytmnddbgblhmlbaa
