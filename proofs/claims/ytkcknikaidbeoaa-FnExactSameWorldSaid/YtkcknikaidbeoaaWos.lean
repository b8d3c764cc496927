/- WorldOk, the reference's. -/
import Derived.Test.YtkcknikaidbeoaaWok
import Derived.Test.YtkcknikaidbeoaaBos
namespace Go.Proofs.Ytkcknikaidbeoaa
open Go.RowKit

theorem inB_out {x a b : Int} (h : inB x a b = false) : x < a ∨ b < x := by
  by_cases h1 : a ≤ x
  · by_cases h2 : x ≤ b
    · rw [inB_yes h1 h2] at h; cases h
    · omega
  · omega
set_option maxRecDepth 100000 in
set_option maxHeartbeats 8000000 in
theorem worldok_spec {u us ub : Value} {X : Wd} (w : World) (h : WAt w u us ub X) (hm : WSmall X) :
    Calls Try.prog 54 #[.agg #[u, .int .i64 X.tick, .int .i64 X.seed, us, ub]] w fun e w' => e = .returned (.bool (okW X)) ∧ Below w.heap.size w w' := by
  have HNlv := Lib.hid (okW_lv (X := X))
  have HNtk := Lib.hid (okW_tick (X := X))
  have HNsd := Lib.hid (okW_seed (X := X))
  have HNn := Lib.hid (okW_n (X := X))
  have HNsc := Lib.hid (fun (k : Nat) (hk : k < X.scores.length) (h : inB (X.scores[k]'hk) 0 1000000 = false) => okW_sc hk h)
  have HNln := Lib.hid (okW_len (X := X))
  have HNbd := Lib.hid (fun (k : Nat) (hk : k < X.bodies.length) (h : ¬ bodyAt X k) => okW_bd hk h)
  have HAll := Lib.hid (fun a b c d e f g => okW_all (X := X) a b c d e f g)
  have HBA : Hid (∀ k, bodyAt X k ↔ (okBd X.rows X.scores.length (bAt X.bodies k) = true ∧ (k < X.scores.length ↔ (bAt X.bodies k).kind = 0) ∧ (k < X.scores.length → (bAt X.bodies k).owner = (k : Int)))) := Lib.hid fun k => Iff.rfl
  generalize okW X = R at HNlv HNtk HNsd HNn HNsc HNln HNbd HAll ⊢
  generalize bodyAt X = BA at HNbd HAll HBA
  obtain ⟨hr, hs, hb⟩ := h
  obtain ⟨rows, tk, sd, sc, bs⟩ := X
  obtain ⟨m0, m1, m2, m3⟩ := hm
  simp only at hr hs hb m0 m1 m2 m3 HNlv HNtk HNsd HNn HNsc HNln HNbd HAll HBA ⊢
  have hs0 := hs
  have hb0 := hb
  obtain ⟨so, scap, rfl, hsc⟩ := hs.cell
  obtain ⟨bo, bcap, rfl, hbc⟩ := hb.cellB
  go_enter Try.func54, Try.ntmps54
  go_wp2_with fail
  generalize hw1 : w.alloc _ = w1
  have hb1 : Below w.heap.size w w1 := by rw [← hw1]; exact (Below.refl _ _).alloc (Nat.le_refl _) _
  have hA1 : WBlk w1 w.heap.size u tk sd (.slice so sc.length scap) (.slice bo bs.length bcap) := by rw [← hw1]; exact WBlk.new w _ u tk sd _ _
  clear hw1
  refine (lvok_spec _ (hr.below hb1) m0 m1).mono ?_
  rintro e wa ⟨rfl, ha⟩
  have hba := hb1.trans (ha.mono hb1.size)
  have hAa := hA1.below ha hA1.lt
  clear ha hA1 hb1
  obtain ⟨_, c0, c1, c2, c3, c4, _⟩ := id hAa
  cases hlv : lvT rows with
  | false =>
    have HN := Lib.hid (HNlv.out hlv)
    clear hlv
    go_wp2_with fail
    go_ret
    exact ⟨ret_bool (by rw [HN.out]), hba⟩
  | true =>
  have HLV := Lib.hid hlv
  clear hlv
  go_wp2_with fail
  refine (in_any _ _ _ _).mono ?_
  rintro e wx ⟨rfl, rfl⟩
  cases hc : inB tk 0 100000 with
  | false =>
    have HN := Lib.hid (HNtk.out hc)
    clear hc
    go_wp2_with fail
    go_ret
    exact ⟨ret_bool (by rw [HN.out]), hba⟩
  | true =>
  have HTK := Lib.hid hc
  clear hc
  go_wp2_with fail
  refine (in_any _ _ _ _).mono ?_
  rintro e wx ⟨rfl, rfl⟩
  cases hc : inB sd 0 65535 with
  | false =>
    have HN := Lib.hid (HNsd.out hc)
    clear hc
    go_wp2_with fail
    go_ret
    exact ⟨ret_bool (by rw [HN.out]), hba⟩
  | true =>
  have HSD := Lib.hid hc
  clear hc
  go_wp2_with fail
  refine (in_any _ _ _ _).mono ?_
  rintro e wx ⟨rfl, rfl⟩
  cases hc : inB (sc.length : Int) 1 4 with
  | false =>
    have HN := Lib.hid (HNn.out (by have := inB_out hc; omega))
    clear hc
    go_wp2_with fail
    go_ret
    exact ⟨ret_bool (by rw [HN.out]), hba⟩
  | true =>
  have HIN := Lib.hid hc
  clear hc
  go_wp2_with fail
  refine (in_any _ _ _ _).mono ?_
  rintro e wx ⟨rfl, rfl⟩
  cases hc : inB (bs.length : Int) (sc.length : Int) 24 with
  | false =>
    have HN := Lib.hid (HNln.out (by have := inB_out hc; omega))
    clear hc
    go_wp2_with fail
    go_ret
    exact ⟨ret_bool (by rw [HN.out]), hba⟩
  | true =>
  have HLN := Lib.hid hc
  clear hc
  have hn1 : 1 ≤ sc.length := by have := inB_iff.1 HIN.out; omega
  have hn4 : sc.length ≤ 4 := by have := inB_iff.1 HIN.out; omega
  have hl1 : sc.length ≤ bs.length := by have := inB_iff.1 HLN.out; omega
  have hl2 : bs.length ≤ 24 := by have := inB_iff.1 HLN.out; omega
  go_wp2_with fail
  go_loop [4] (fun i => ∃ k : Nat, k ≤ sc.length ∧ i = .int .i64 k ∧ Hid (∀ j (hj : j < sc.length), j < k → inB (sc[j]'hj) 0 1000000 = true)) (fun i => sc.length - (intOf i).toNat)
  case atStart => exact ⟨0, Nat.zero_le _, rfl, Lib.hid fun _ _ h => absurd h (Nat.not_lt_zero _)⟩
  case round =>
    obtain ⟨k, hk, rfl, HK⟩ := hrel
    by_cases hlt : k < sc.length
    · obtain ⟨g, off, rfl, hg, hcell⟩ := hsc (by omega)
      clear hsc hbc
      have e1 := (hba.cell hg).trans (hcell k hlt)
      clear hcell
      go_wp2_with fail
      refine (in_any _ _ _ _).mono ?_
      rintro e wx ⟨rfl, rfl⟩
      cases hin : inB (sc[k]'hlt) 0 1000000 with
      | false =>
        have HN := Lib.hid (HNsc.out _ hlt hin)
        clear hin
        go_wp2_with fail
        go_ret
        exact ⟨ret_bool (by rw [HN.out]), hba⟩
      | true =>
        have HK2 : Hid (∀ j (hj : j < sc.length), j < k + 1 → inB (sc[j]'hj) 0 1000000 = true) := Lib.hid fun j hj h' => by
          by_cases e : j = k
          · subst e; exact hin
          · exact HK.out j hj (by omega)
        clear hin
        go_wp2_with fail
        go_round
        case rel => exact ⟨k + 1, by omega, by go_num, HK2⟩
        case measure => simp [intOf]; omega
    · have HSC := Lib.hid (fun j (hj : j < sc.length) => HK.out j hj (by omega))
      clear hsc
      go_wp2_with fail
      go_loopw [5] (fun i wx => ∃ k : Nat, k ≤ bs.length ∧ i = .int .i64 k ∧ Hid (∀ j, j < k → BA j) ∧ WBlk wx w.heap.size u tk sd (.slice so sc.length scap) (.slice bo bs.length bcap) ∧ Below w.heap.size w wx) (fun i _ => bs.length - (intOf i).toNat)
      case atStart => exact ⟨0, Nat.zero_le _, rfl, Lib.hid fun _ h => absurd h (Nat.not_lt_zero _), hAa, hba⟩
      case round =>
        clear hAa hba c0 c1 c2 c3 c4
        obtain ⟨q, hq, rfl, HQ, hA, hbl⟩ := hrel
        obtain ⟨_, c0, c1, c2, c3, c4, _⟩ := id hA
        by_cases hql : q < bs.length
        · obtain ⟨g, off, rfl, hg, _⟩ := hbc (by omega)
          clear hbc
          have HR := ((hb0.elem hql).below hbl hg).range
          have HBq := Lib.hid (HBA.out q)
          have HNq := Lib.hid (HNbd.out _ hql)
          obtain ⟨b, hbq⟩ : ∃ b, bAt bs q = b := ⟨_, rfl⟩
          rw [hbq] at HR HBq
          clear hbq
          go_upto_region 13 with (first | (with_reducible refine load_bod (op := ⟨some 62, _, _, _, _, _⟩) rfl _ rfl g (off + q * 9) rfl b HR ?_) | (with_reducible refine store_bod (op := ⟨none, _, _, _, _, _⟩) rfl _ _ rfl wr.heap.size 0 rfl b rfl (zthere _ _) ?_))
          have hz := hbl.size
          have hq := newB hbl hz 56 b
          generalize hwn : World.setCells (World.alloc wr _) _ _ _ = wn
          rw [hwn] at hq
          obtain ⟨hBn, hbn, hkn⟩ := hq
          have hAn := hA.below hkn hA.lt
          clear hwn hA hbl hz hkn c0 c1 c2 c3 c4
          obtain ⟨_, c0, c1, c2, c3, c4, _⟩ := id hAn
          go_wp2_with (with_reducible refine load_bod (op := ⟨some 66, _, _, _, _, _⟩) rfl _ rfl wr.heap.size 0 rfl b hBn.range ?_)
          refine (l02body_ret (sc.length : Int) b _ (hr.below hbn) m0 m1 HLV.out (by omega) (by omega)).mono ?_
          rintro e wc ⟨rfl, hc⟩
          have hAc := hAn.below hc hAn.lt
          have hBc := hBn.below hc hBn.lt
          have hblc := hbn.trans (hc.mono hbn.size)
          clear hAn hBn hbn hc c0 c1 c2 c3 c4
          obtain ⟨_, c0, c1, c2, c3, c4, _⟩ := id hAc
          obtain ⟨_, d0, d1, _⟩ := id hBc
          cases hok : okBd rows sc.length b with
          | false =>
            have HN := Lib.hid (HNq.out (fun e => by have := (HBq.out.1 e).1; rw [hok] at this; cases this))
            clear hok
            go_wp2_with fail
            go_ret
            exact ⟨ret_bool (by rw [HN.out]), hblc⟩
          | true =>
            have HOK := Lib.hid hok
            clear hok
            by_cases hqn : q < sc.length
            · by_cases hk0 : b.kind = 0
              · by_cases hk1 : b.owner = (q : Int)
                · have HB : Hid (∀ j, j < q + 1 → BA j) := Lib.hid fun j hj => by
                    by_cases e : j = q
                    · subst e; exact HBq.out.2 ⟨HOK.out, ⟨fun _ => hk0, fun _ => hqn⟩, fun _ => hk1⟩
                    · exact HQ.out j (by omega)
                  go_wp2_with fail
                  go_roundw
                  case rel => exact ⟨q + 1, by omega, by go_num, HB, hAc, hblc⟩
                  case measure => simp [intOf]; omega
                · have HN := Lib.hid (HNq.out (fun e => hk1 ((HBq.out.1 e).2.2 hqn)))
                  have x1 : (b.owner == (q : Int)) = false := beq_eq_false_iff_ne.2 hk1
                  go_wp2_with fail
                  go_ret
                  exact ⟨ret_bool (by rw [HN.out]), hblc⟩
              · have HN := Lib.hid (HNq.out (fun e => hk0 ((HBq.out.1 e).2.1.1 hqn)))
                have x1 : (b.kind == 0) = false := beq_eq_false_iff_ne.2 hk0
                go_wp2_with fail
                go_ret
                exact ⟨ret_bool (by rw [HN.out]), hblc⟩
            · by_cases hk0 : b.kind = 0
              · have HN := Lib.hid (HNq.out (fun e => hqn ((HBq.out.1 e).2.1.2 hk0)))
                go_wp2_with fail
                go_ret
                exact ⟨ret_bool (by rw [HN.out]), hblc⟩
              · have HB : Hid (∀ j, j < q + 1 → BA j) := Lib.hid fun j hj => by
                  by_cases e : j = q
                  · subst e; exact HBq.out.2 ⟨HOK.out, ⟨fun h => absurd h hqn, fun h => absurd h hk0⟩, fun h => absurd h hqn⟩
                  · exact HQ.out j (by omega)
                have x1 : (b.kind == 0) = false := beq_eq_false_iff_ne.2 hk0
                go_wp2_with fail
                go_roundw
                case rel => exact ⟨q + 1, by omega, by go_num, HB, hAc, hblc⟩
                case measure => simp [intOf]; omega
        · have HN := Lib.hid (HAll.out HLV.out HTK.out HSD.out ⟨hn1, hn4⟩ HSC.out ⟨hl1, hl2⟩ fun j hj => HQ.out j (by omega))
          go_wp2_with fail
          go_ret
          exact ⟨ret_bool (by rw [HN.out]), hbl⟩
end Go.Proofs.Ytkcknikaidbeoaa
