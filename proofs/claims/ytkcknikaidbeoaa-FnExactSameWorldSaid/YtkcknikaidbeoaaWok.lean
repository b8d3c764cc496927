/- WorldOk, the program's. -/
import Derived.Test.YtkcknikaidbeoaaWme
import Derived.Test.YtkcknikaidbeoaaStayLaw
namespace Go.Proofs.Ytkcknikaidbeoaa
open Go.RowKit

theorem okW_iff {X : Wd} : okW X = true ↔ lvT X.rows = true ∧ inB X.tick 0 100000 = true ∧ inB X.seed 0 65535 = true ∧ (1 ≤ X.scores.length ∧ X.scores.length ≤ 4) ∧ scoresOk X.scores = true ∧ (X.scores.length ≤ X.bodies.length ∧ X.bodies.length ≤ 24) ∧ bodiesGo X.rows X.scores.length 0 X.bodies = true := by
  unfold okW
  simp only [Bool.and_eq_true, decide_eq_true_eq]
theorem okW_no {X : Wd} (h : okW X = true → False) : okW X = false := by cases hh : okW X; rfl; exact (h hh).elim
section
variable {X : Wd}
theorem okW_lv (h : lvT X.rows = false) : okW X = false := okW_no fun e => by have := (okW_iff.1 e).1; rw [h] at this; cases this
theorem okW_tick (h : inB X.tick 0 100000 = false) : okW X = false := okW_no fun e => by have := (okW_iff.1 e).2.1; rw [h] at this; cases this
theorem okW_seed (h : inB X.seed 0 65535 = false) : okW X = false := okW_no fun e => by have := (okW_iff.1 e).2.2.1; rw [h] at this; cases this
theorem okW_n (h : X.scores.length < 1 ∨ 4 < X.scores.length) : okW X = false := okW_no fun e => by have := (okW_iff.1 e).2.2.2.1; omega
theorem okW_sc {k : Nat} (hk : k < X.scores.length) (h : inB (X.scores[k]'hk) 0 1000000 = false) : okW X = false := okW_no fun e => by
  have := List.all_eq_true.1 (okW_iff.1 e).2.2.2.2.1 _ (List.getElem_mem hk)
  rw [h] at this; cases this
theorem okW_len (h : X.bodies.length < X.scores.length ∨ 24 < X.bodies.length) : okW X = false := okW_no fun e => by have := (okW_iff.1 e).2.2.2.2.2.1; omega
/-- what is asked of body k -/
def bodyAt (X : Wd) (k : Nat) : Prop := okBd X.rows X.scores.length (bAt X.bodies k) = true ∧ (k < X.scores.length ↔ (bAt X.bodies k).kind = 0) ∧ (k < X.scores.length → (bAt X.bodies k).owner = (k : Int))
theorem okW_bd {k : Nat} (hk : k < X.bodies.length) (h : ¬ bodyAt X k) : okW X = false := okW_no fun e => by
  have := bodiesGo_at (okW_iff.1 e).2.2.2.2.2.2 k hk
  rw [← bAt_eq hk, Nat.zero_add] at this
  exact h this
theorem okW_all (h1 : lvT X.rows = true) (h2 : inB X.tick 0 100000 = true) (h3 : inB X.seed 0 65535 = true) (h4 : 1 ≤ X.scores.length ∧ X.scores.length ≤ 4) (h5 : ∀ k (hk : k < X.scores.length), inB (X.scores[k]'hk) 0 1000000 = true)
    (h6 : X.scores.length ≤ X.bodies.length ∧ X.bodies.length ≤ 24) (h7 : ∀ k, k < X.bodies.length → bodyAt X k) : okW X = true :=
  okW_iff.2 ⟨h1, h2, h3, h4, List.all_eq_true.2 fun x hx => by obtain ⟨i, hi, rfl⟩ := List.mem_iff_getElem.1 hx; exact h5 i hi, h6, bodiesGo_mk fun j hj => by
    rw [Nat.zero_add, ← bAt_eq hj]; exact h7 j hj⟩
end
set_option maxRecDepth 100000 in
set_option maxHeartbeats 8000000 in
theorem worldok_impl {u us ub : Value} {X : Wd} (w : World) (h : WAt w u us ub X) (hm : WSmall X) (hw : ∀ b ∈ X.bodies, BWf b) :
    Calls Try.prog 55 #[.agg #[u, .int .i64 X.tick, .int .i64 X.seed, us, ub]] w fun e w' => e = .returned (.bool (okW X)) ∧ Below w.heap.size w w' := by
  have HNlv := Lib.hid (okW_lv (X := X))
  have HNtk := Lib.hid (okW_tick (X := X))
  have HNsd := Lib.hid (okW_seed (X := X))
  have HNn := Lib.hid (okW_n (X := X))
  have HNsc := Lib.hid (fun (k : Nat) (hk : k < X.scores.length) (h : inB (X.scores[k]'hk) 0 1000000 = false) => okW_sc hk h)
  have HNln := Lib.hid (okW_len (X := X))
  have HNbd := Lib.hid (fun (k : Nat) (hk : k < X.bodies.length) (h : ¬ bodyAt X k) => okW_bd hk h)
  have HAll := Lib.hid (fun a b c d e f g => okW_all (X := X) a b c d e f g)
  have HBA : Hid (∀ k, bodyAt X k ↔ (okBd X.rows X.scores.length (bAt X.bodies k) = true ∧ (k < X.scores.length ↔ (bAt X.bodies k).kind = 0) ∧ (k < X.scores.length → (bAt X.bodies k).owner = (k : Int)))) := Lib.hid fun k => Iff.rfl
  generalize okW X = R at HNlv HNtk HNsd HNn HNsc HNln HNbd HAll ⊢
  generalize bodyAt X = BA at HNbd HAll HBA
  obtain ⟨hr, hs, hb⟩ := h
  obtain ⟨rows, tk, sd, sc, bs⟩ := X
  obtain ⟨m0, m1, m2, m3⟩ := hm
  simp only at hr hs hb m0 m1 m2 m3 hw HNlv HNtk HNsd HNn HNsc HNln HNbd HAll HBA ⊢
  have hs0 := hs
  have hb0 := hb
  obtain ⟨so, scap, rfl, hsc⟩ := hs.cell
  obtain ⟨bo, bcap, rfl, hbc⟩ := hb.cellB
  go_enter Try.func55, Try.ntmps55
  go_wp2_with fail
  generalize hw1 : w.alloc _ = w1
  have hb1 : Below w.heap.size w w1 := by rw [← hw1]; exact (Below.refl _ _).alloc (Nat.le_refl _) _
  have hA1 : WBlk w1 w.heap.size u tk sd (.slice so sc.length scap) (.slice bo bs.length bcap) := by rw [← hw1]; exact WBlk.new w _ u tk sd _ _
  clear hw1
  refine (lvok_impl _ (hr.below hb1) m0 m1).mono ?_
  rintro e wa ⟨rfl, ha⟩
  have hba := hb1.trans (ha.mono hb1.size)
  have hAa := hA1.below ha hA1.lt
  clear ha hA1 hb1
  obtain ⟨_, c0, c1, c2, c3, c4, _⟩ := id hAa
  cases hlv : lvT rows with
  | false =>
    have HN := Lib.hid (HNlv.out hlv)
    clear hlv
    go_wp2_with fail
    go_ret
    exact ⟨ret_bool (by rw [HN.out]), hba⟩
  | true =>
    have HLV := Lib.hid hlv
    clear hlv
    go_wp2_with fail
    refine (between_any _ _ _ _).mono ?_
    rintro e wx ⟨rfl, rfl⟩
    cases htk : inB tk 0 100000 with
    | false =>
      have HN := Lib.hid (HNtk.out htk)
      clear htk
      go_wp2_with fail
      go_ret
      exact ⟨ret_bool (by rw [HN.out]), hba⟩
    | true =>
      have HTK := Lib.hid htk
      clear htk
      go_wp2_with fail
      refine (between_any _ _ _ _).mono ?_
      rintro e wx ⟨rfl, rfl⟩
      cases hsd : inB sd 0 65535 with
      | false =>
        have HN := Lib.hid (HNsd.out hsd)
        clear hsd
        go_wp2_with fail
        go_ret
        exact ⟨ret_bool (by rw [HN.out]), hba⟩
      | true =>
        have HSD := Lib.hid hsd
        clear hsd
        by_cases hn : sc.length < 1 ∨ 4 < sc.length
        · have HN := Lib.hid (HNn.out hn)
          rcases hn with hn | hn
          · go_wp2_with fail
            go_ret
            exact ⟨ret_bool (by rw [HN.out]), hba⟩
          · have hn1 : ¬ sc.length < 1 := by omega
            go_wp2_with fail
            go_ret
            exact ⟨ret_bool (by rw [HN.out]), hba⟩
        have hn1 : 1 ≤ sc.length := by omega
        have hn4 : sc.length ≤ 4 := by omega
        clear hn
        have x1 : decide ((sc.length : Int) < 1) = false := decide_eq_false (by omega)
        have x2 : decide ((4 : Int) < (sc.length : Int)) = false := decide_eq_false (by omega)
        go_wp2_with fail
        go_loop [36] (fun i => ∃ k : Nat, k ≤ sc.length ∧ i = .int .i64 k ∧ Hid (∀ j (hj : j < sc.length), j < k → inB (sc[j]'hj) 0 1000000 = true)) (fun i => sc.length - (intOf i).toNat)
        case atStart => exact ⟨0, Nat.zero_le _, rfl, Lib.hid fun _ _ h => absurd h (Nat.not_lt_zero _)⟩
        case round =>
          obtain ⟨k, hk, rfl, HK⟩ := hrel
          by_cases hlt : k < sc.length
          · obtain ⟨g, off, rfl, hg, hcell⟩ := hsc (by omega)
            clear hsc hbc
            have e1 := (hba.cell hg).trans (hcell k hlt)
            clear hcell
            go_wp2_with fail
            refine (between_any _ _ _ _).mono ?_
            rintro e wx ⟨rfl, rfl⟩
            cases hin : inB (sc[k]'hlt) 0 1000000 with
            | false =>
              have HN := Lib.hid (HNsc.out _ hlt hin)
              clear hin
              go_wp2_with fail
              go_ret
              exact ⟨ret_bool (by rw [HN.out]), hba⟩
            | true =>
              have HK2 : Hid (∀ j (hj : j < sc.length), j < k + 1 → inB (sc[j]'hj) 0 1000000 = true) := Lib.hid fun j hj h' => by
                by_cases e : j = k
                · subst e; exact hin
                · exact HK.out j hj (by omega)
              clear hin
              go_wp2_with fail
              go_round
              case rel => exact ⟨k + 1, by omega, by go_num, HK2⟩
              case measure => simp [intOf]; omega
          · have HSC := Lib.hid (fun j (hj : j < sc.length) => HK.out j hj (by omega))
            clear hsc
            by_cases hl : bs.length < sc.length ∨ 24 < bs.length
            · have HN := Lib.hid (HNln.out hl)
              rcases hl with hl | hl
              · go_wp2_with fail
                go_ret
                exact ⟨ret_bool (by rw [HN.out]), hba⟩
              · have hl1 : ¬ bs.length < sc.length := by omega
                go_wp2_with fail
                go_ret
                exact ⟨ret_bool (by rw [HN.out]), hba⟩
            have hl1 : sc.length ≤ bs.length := by omega
            have hl2 : bs.length ≤ 24 := by omega
            clear hl
            go_wp2_with fail
            go_loopw [58] (fun i wx => ∃ k : Nat, k ≤ bs.length ∧ i = .int .i64 k ∧ Hid (∀ j, j < k → BA j) ∧ WBlk wx w.heap.size u tk sd (.slice so sc.length scap) (.slice bo bs.length bcap) ∧ Below w.heap.size w wx) (fun i _ => bs.length - (intOf i).toNat)
            case atStart => exact ⟨0, Nat.zero_le _, rfl, Lib.hid fun _ h => absurd h (Nat.not_lt_zero _), hAa, hba⟩
            case round =>
              clear hAa hba c0 c1 c2 c3 c4
              obtain ⟨q, hq, rfl, HQ, hA, hbl⟩ := hrel
              by_cases hql : q < bs.length
              · obtain ⟨g, off, rfl, hg, _⟩ := hbc (by omega)
                clear hbc
                have HR := ((hb0.elem hql).below hbl hg).range
                have hbw := hw _ (show bAt bs q ∈ bs by rw [bAt_eq hql]; exact List.getElem_mem hql)
                have HBq := Lib.hid (HBA.out q)
                have HNq := Lib.hid (HNbd.out _ hql)
                obtain ⟨b, hbq⟩ : ∃ b, bAt bs q = b := ⟨_, rfl⟩
                rw [hbq] at HR hbw HBq
                clear hbq
                go_upto_region 17 with (first | (with_reducible refine load_bod (op := ⟨some 62, _, _, _, _, _⟩) rfl _ rfl g (off + q * 9) rfl b HR ?_) | (with_reducible refine store_bod (op := ⟨none, _, _, _, _, _⟩) rfl _ _ rfl wr.heap.size 0 rfl b rfl (zthere _ _) ?_))
                have hz := hbl.size
                have hq := newB hbl hz 56 b
                generalize hwn : World.setCells (World.alloc wr _) _ _ _ = wn
                rw [hwn] at hq
                obtain ⟨hBn, hbn, hkn⟩ := hq
                have hAn := hA.below hkn hA.lt
                clear hwn hA hbl hz hkn
                obtain ⟨_, c0, c1, c2, c3, c4, _⟩ := id hAn
                go_wp2_with (with_reducible refine load_bod (op := ⟨some 66, _, _, _, _, _⟩) rfl _ rfl wr.heap.size 0 rfl b hBn.range ?_)
                refine (bok_impl (sc.length : Int) b _ (hr.below hbn) m0 m1 hbw).mono ?_
                rintro e wc ⟨rfl, hc⟩
                have hAc := hAn.below hc hAn.lt
                have hBc := hBn.below hc hBn.lt
                have hblc := hbn.trans (hc.mono hbn.size)
                clear hAn hBn hbn hc c0 c1 c2 c3 c4
                obtain ⟨_, c0, c1, c2, c3, c4, _⟩ := id hAc
                obtain ⟨_, d0, d1, _⟩ := id hBc
                cases hok : okBd rows sc.length b with
                | false =>
                  have HN := Lib.hid (HNq.out (fun e => by have := (HBq.out.1 e).1; rw [hok] at this; cases this))
                  clear hok
                  go_wp2_with fail
                  go_ret
                  exact ⟨ret_bool (by rw [HN.out]), hblc⟩
                | true =>
                  have HOK := Lib.hid hok
                  clear hok
                  by_cases hqn : q < sc.length
                  · by_cases hk0 : b.kind = 0
                    · by_cases hk1 : b.owner = (q : Int)
                      · have HB : Hid (∀ j, j < q + 1 → BA j) := Lib.hid fun j hj => by
                          by_cases e : j = q
                          · subst e; exact HBq.out.2 ⟨HOK.out, ⟨fun _ => hk0, fun _ => hqn⟩, fun _ => hk1⟩
                          · exact HQ.out j (by omega)
                        go_wp2_with fail
                        go_roundw
                        case rel => exact ⟨q + 1, by omega, by go_num, HB, hAc, hblc⟩
                        case measure => simp [intOf]; omega
                      · have HN := Lib.hid (HNq.out (fun e => hk1 ((HBq.out.1 e).2.2 hqn)))
                        have x1 : (b.owner == (q : Int)) = false := beq_eq_false_iff_ne.2 hk1
                        go_wp2_with fail
                        go_ret
                        exact ⟨ret_bool (by rw [HN.out]), hblc⟩
                    · have HN := Lib.hid (HNq.out (fun e => hk0 ((HBq.out.1 e).2.1.1 hqn)))
                      have x1 : (b.kind == 0) = false := beq_eq_false_iff_ne.2 hk0
                      go_wp2_with fail
                      go_ret
                      exact ⟨ret_bool (by rw [HN.out]), hblc⟩
                  · by_cases hk0 : b.kind = 0
                    · have HN := Lib.hid (HNq.out (fun e => hqn ((HBq.out.1 e).2.1.2 hk0)))
                      go_wp2_with fail
                      go_ret
                      exact ⟨ret_bool (by rw [HN.out]), hblc⟩
                    · have HB : Hid (∀ j, j < q + 1 → BA j) := Lib.hid fun j hj => by
                        by_cases e : j = q
                        · subst e; exact HBq.out.2 ⟨HOK.out, ⟨fun h => absurd h hqn, fun h => absurd h hk0⟩, fun h => absurd h hqn⟩
                        · exact HQ.out j (by omega)
                      have x1 : (b.kind == 0) = false := beq_eq_false_iff_ne.2 hk0
                      go_wp2_with fail
                      go_roundw
                      case rel => exact ⟨q + 1, by omega, by go_num, HB, hAc, hblc⟩
                      case measure => simp [intOf]; omega
              · have HN := Lib.hid (HAll.out HLV.out HTK.out HSD.out ⟨hn1, hn4⟩ HSC.out ⟨hl1, hl2⟩ fun j hj => HQ.out j (by omega))
                go_wp2_with fail
                go_ret
                exact ⟨ret_bool (by rw [HN.out]), hbl⟩
end Go.Proofs.Ytkcknikaidbeoaa
