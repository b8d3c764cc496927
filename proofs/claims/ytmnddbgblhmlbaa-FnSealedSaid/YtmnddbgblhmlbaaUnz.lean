/- UnpackZeros: the program's and the reference's return the one text of at most 20000 bytes that packs to the string. -/
import Derived.Test.YtmnddbgblhmlbaaUnzLaw
import Derived.Test.YtmnddbgblhmlbaaZes
import Derived.Test.YtmnddbgblhmlbaaDel
import Derived.Test.YtmnddbgblhmlbaaOzs
import Derived.Test.YtmnddbgblhmlbaaInts
namespace Go.Proofs.Ytmnddbgblhmlbaa
open Go.RowKit

theorem Own.isSlice {w : World} {base sz : Nat} {v : Value} {n : Nat} {cs : List Value} (h : Own w base sz v n cs) : ∃ ao cap, v = .slice ao n cap := by
  rcases h.val with ⟨rfl, rfl⟩ | ⟨g, cap, rfl, _⟩
  · exact ⟨_, _, rfl⟩
  · exact ⟨_, _, rfl⟩
theorem S_len (s : ByteArray) : s.data.toList.length = s.size := by simp
theorem S_dec (s : ByteArray) {p v k : Nat} {b : Bool} (h : decA s (p : Int) = ((v : Int), (k : Int), b)) : decV (s.data.toList.drop p) = ((v : Int), (k : Int), b) := by rw [← decA_nat]; exact h
theorem S_dec0 (s : ByteArray) {p : Nat} (h : decA s (p : Int) = (0, 0, false)) : decV (s.data.toList.drop p) = (0, 0, false) := by rw [← decA_nat]; exact h
theorem S_ext (s : ByteArray) (p v : Nat) : (s.extract p (p + v)).data.toList = (s.data.toList.drop p).take v := by
  rw [Lib.extract_data, Nat.add_sub_cancel_left]
theorem u_ext {s : ByteArray} {l : List UInt8} {p n k v m : Nat} (h : UInv s.data.toList l p) (hp : p < s.size) (hd : decA s (p : Int) = ((n : Int), (k : Int), true)) (hd2 : decA s ((p + k : Nat) : Int) = ((v : Int), (m : Int), true)) :
    UInv s.data.toList (l ++ List.replicate n (0 : UInt8) ++ (s.extract (p + k + m) (p + k + m + v)).data.toList) (p + k + m + v) := by
  rw [S_ext]
  exact u_next h (by rw [S_len]; exact hp) (S_dec s hd) (S_dec s hd2)
theorem unp_impl_at {s T : ByteArray} {p k : Int} {b : Bool} (hs : s.size ≤ 1099511627776) (h : unpA s p = (T, k, b)) (w : World) :
    Calls Try.prog 48 #[.string s, .int .i64 p] w fun e w' => e = .returned (.tuple #[.string T, .int .i64 k, .bool b]) ∧ w = w' :=
  (unp_impl s p w hs).mono fun _ _ ⟨he, hw⟩ => ⟨by rw [he, h], hw⟩
theorem unp_spec_at {s T : ByteArray} {p k : Int} {b : Bool} (hs : s.size ≤ 1099511627776) (h : unpA s p = (T, k, b)) (w : World) :
    Calls Try.prog 80 #[.string s, .int .i64 p] w fun e w' => e = .returned (.tuple #[.string T, .int .i64 k, .bool b]) ∧ Below w.heap.size w w' :=
  (unp_spec s p w hs).mono fun _ _ ⟨he, hw⟩ => ⟨by rw [he, h], hw⟩
theorem pack_eq {s : ByteArray} {l : List UInt8} (h : ((packZ ⟨l.toArray⟩).toList == s.toList) = true) : pz l = s.data.toList := by
  rw [beq_iff_eq, Lib.toList_data, Lib.toList_data] at h
  exact h
theorem pack_ne {s : ByteArray} {l : List UInt8} (h : ((packZ ⟨l.toArray⟩).toList == s.toList) = false) : pz l ≠ s.data.toList := by
  intro e
  rw [beq_eq_false_iff_ne, Lib.toList_data, Lib.toList_data] at h
  exact h e

set_option maxRecDepth 100000 in
set_option maxHeartbeats 4000000 in
theorem unz_impl (s : ByteArray) (w : World) (hs : s.size ≤ 1099511627775) :
    Calls Try.prog 56 #[.string s] w fun e w' => e = .returned (.tuple #[.string (unzT s).1, .bool (unzT s).2]) ∧ Below w.heap.size w w' := by
  have hs' : s.size ≤ 1099511627776 := by omega
  go_enter Try.func56, Try.ntmps56
  go_wp2_with fail
  go_loopw [4, 5] (fun v i wr => ∃ (p : Nat) (l : List UInt8), p ≤ s.size ∧ i = .int .i64 p ∧ l.length ≤ 20000 ∧ Own wr w.heap.size 1 v l.length (u8s l) ∧ Hid (UInv s.data.toList l p) ∧ Below w.heap.size w wr) (fun _ i _ => s.size - (intOf i).toNat)
  case atStart => exact ⟨0, [], Nat.zero_le _, rfl, Nat.zero_le _, Own.nil _ _ _, Lib.hid (uinv_0 _), Below.refl _ _⟩
  case round =>
    obtain ⟨p, l, hp, rfl, hl, hown, HU, hbl⟩ := hrel
    obtain ⟨ao, cp, rfl⟩ := hown.isSlice
    have hsz := hbl.size
    by_cases hlt : p < s.size
    · have hltS : p < s.data.toList.length := by rw [S_len]; exact hlt
      rcases decA_cases s p with h | ⟨q, n, k, hq, h, h1, h2, h3, h4, _⟩
      · have HN := Lib.hid (unz_no (u_no1 HU.out hltS (S_dec0 s h)))
        have HD := Lib.hid h; clear h
        go_wp2_with fail
        refine (decv_impl_at _ hs' HD.out).mono ?_
        rintro e w1 ⟨rfl, rfl⟩
        go_wp2_with fail
        go_ret2
        exact ⟨by rw [HN.out]; rfl, hbl⟩
      · obtain rfl : q = p := by omega
        clear hq
        by_cases hb1 : 20000 < l.length + n
        · have HN := Lib.hid (unz_no (u_no2 HU.out hltS (S_dec s h) hb1))
          have HD := Lib.hid h; clear h
          go_wp2_with fail
          refine (decv_impl_at _ hs' HD.out).mono ?_
          rintro e w1 ⟨rfl, rfl⟩
          go_wp2_with fail
          go_ret2
          exact ⟨by rw [HN.out]; rfl, hbl⟩
        · rcases decA_cases s ((q + k : Nat) : Int) with g | ⟨q2, v, m, hq2, g, g1, g2, g3, g4, _⟩
          · have HN := Lib.hid (unz_no (u_no3 HU.out hltS (S_dec s h) (S_dec0 s g)))
            have HD := Lib.hid h; clear h
            have HG := unpA_no g
            rw [Int.natCast_add] at HG
            have HG' := Lib.hid HG; clear HG g
            go_wp2_with fail
            refine (decv_impl_at _ hs' HD.out).mono ?_
            rintro e w1 ⟨rfl, rfl⟩
            go_wp2_with fail
            refine (unp_impl_at hs' HG'.out _).mono ?_
            rintro e w1 ⟨rfl, rfl⟩
            go_wp2_with fail
            go_ret2
            exact ⟨by rw [HN.out]; rfl, hbl⟩
          · obtain rfl : q2 = q + k := by omega
            clear hq2
            by_cases hb2 : (v : Int) ≤ (s.size : Int) - ((q + k : Nat) : Int) - m
            · have HG := unpA_yes g hb2
              rw [Int.natCast_add] at HG
              have hTs : (s.extract (q + k + m) (q + k + m + v)).size = v := by rw [ByteArray.size_extract]; omega
              by_cases hb3 : 20000 < l.length + n + v
              · have HN := Lib.hid (unz_no (u_no5 HU.out hltS (S_dec s h) (S_dec s g) hb3))
                have HD := Lib.hid h; clear h
                have HG' := Lib.hid HG; clear HG g
                go_wp2_with fail
                refine (decv_impl_at _ hs' HD.out).mono ?_
                rintro e w1 ⟨rfl, rfl⟩
                go_wp2_with fail
                refine (unp_impl_at hs' HG'.out _).mono ?_
                rintro e w1 ⟨rfl, rfl⟩
                go_wp2_with fail
                go_ret2
                exact ⟨by rw [HN.out]; rfl, hbl⟩
              · have hq1 : q + k + m + v ≤ s.size := by omega
                have HX := Lib.hid (u_ext HU.out hlt h g)
                obtain ⟨T, hT⟩ : ∃ T, T = s.extract (q + k + m) (q + k + m + v) := ⟨_, rfl⟩
                rw [← hT] at HG hTs HX
                have hlen : (l ++ List.replicate n (0 : UInt8) ++ T.data.toList).length ≤ 20000 := by
                  rw [List.length_append, List.length_append, List.length_replicate, bytes_len0]
                  omega
                rcases (show (n = 0 ∧ v = 0) ∨ (n = 0 ∧ v ≠ 0) ∨ n ≠ 0 by omega) with ⟨e1, e2⟩ | e3
                · have HN := Lib.hid (unz_no (u_no6 HU.out hltS (S_dec s h) (S_dec s g) e1 e2))
                  have b1 : ((n : Int) == 0) = true := by rw [e1]; rfl
                  have b2 : ((v : Int) == 0) = true := by rw [e2]; rfl
                  have HE := Lib.hid (And.intro e1 e2)
                  have HD := Lib.hid h; clear h
                  have HG' := Lib.hid HG; clear HG g hT e1 e2
                  go_wp2_with fail
                  refine (decv_impl_at _ hs' HD.out).mono ?_
                  rintro e w1 ⟨rfl, rfl⟩
                  go_wp2_with fail
                  refine (unp_impl_at hs' HG'.out _).mono ?_
                  rintro e w1 ⟨rfl, rfl⟩
                  go_wp2_with (with_reducible refine app_zeros (o := ⟨some 59, _, _, _, _, _⟩) _ rfl _ _ rfl w.heap.size hown rfl n rfl (by omega) hsz ?_)
                  intro v1 wa hown1 hg1
                  have hbl1 := hbl.trans (hown.below_of hg1 (Nat.le_refl _) hsz)
                  have hsz1 := hbl1.size
                  clear hg1
                  go_wp2_with (with_reducible refine app_str (o := ⟨some 62, _, _, _, _, _⟩) wa rfl _ _ rfl w.heap.size hown1 rfl _ rfl (by omega) hsz1 ?_)
                  intro v2 wb hown2 hg2 _
                  have hbl2 := hbl1.trans (hown1.below_of hg2 (Nat.le_refl _) hsz1)
                  clear hg2
                  go_wp2_with fail
                  go_ret2
                  exact ⟨by rw [HN.out]; rfl, hbl2⟩
                · have HD := Lib.hid h; clear h
                  have HG' := Lib.hid HG; clear HG g hT
                  rcases e3 with ⟨e1, e2⟩ | e1
                  all_goals
                    first
                      | (have b1 : ((n : Int) == 0) = true := by rw [e1]; rfl
                         have b2 : ((v : Int) == 0) = false := beq_eq_false_iff_ne.2 (by omega)
                         clear e1)
                      | (have b1 : ((n : Int) == 0) = false := beq_eq_false_iff_ne.2 (by omega))
                    go_wp2_with fail
                    refine (decv_impl_at _ hs' HD.out).mono ?_
                    rintro e w1 ⟨rfl, rfl⟩
                    go_wp2_with fail
                    refine (unp_impl_at hs' HG'.out _).mono ?_
                    rintro e w1 ⟨rfl, rfl⟩
                    go_wp2_with (with_reducible refine app_zeros (o := ⟨some 59, _, _, _, _, _⟩) _ rfl _ _ rfl w.heap.size hown rfl n rfl (by omega) hsz ?_)
                    intro v1 wa hown1 hg1
                    have hbl1 := hbl.trans (hown.below_of hg1 (Nat.le_refl _) hsz)
                    have hsz1 := hbl1.size
                    clear hg1
                    go_wp2_with (with_reducible refine app_str (o := ⟨some 62, _, _, _, _, _⟩) wa rfl _ _ rfl w.heap.size hown1 rfl _ rfl (by omega) hsz1 ?_)
                    intro v2 wb hown2 hg2 _
                    have hbl2 := hbl1.trans (hown1.below_of hg2 (Nat.le_refl _) hsz1)
                    clear hg2
                    go_wp2_with fail
                    go_roundw
                    case rel => exact ⟨q + k + m + v, _, hq1, by go_num, hlen, own_assoc hown2.fit, HX, hbl2⟩
                    case measure => simp [intOf]; omega
            · have HN := Lib.hid (unz_no (u_no4 HU.out hltS (S_dec s h) (S_dec s g) (by rw [S_len]; omega)))
              have HG := unpA_big g (by omega)
              rw [Int.natCast_add] at HG
              have HD := Lib.hid h; clear h
              have HG' := Lib.hid HG; clear HG g
              go_wp2_with fail
              refine (decv_impl_at _ hs' HD.out).mono ?_
              rintro e w1 ⟨rfl, rfl⟩
              go_wp2_with fail
              refine (unp_impl_at hs' HG'.out _).mono ?_
              rintro e w1 ⟨rfl, rfl⟩
              go_wp2_with fail
              go_ret2
              exact ⟨by rw [HN.out]; rfl, hbl⟩
    · have hpS : s.data.toList.length ≤ p := by rw [S_len]; omega
      have HL : Hid ((⟨l.toArray⟩ : ByteArray).size ≤ 1099511627775) := Lib.hid (by show l.toArray.size ≤ _; simp; omega)
      go_wp2_with (with_reducible refine str_law (o := ⟨some 71, _, _, _, _, _⟩) _ rfl _ rfl hown.at_ rfl ?_)
      go_wp2_with fail
      refine (zer_impl _ _ HL.out).mono ?_
      rintro e wa ⟨rfl, ha⟩
      have hown1 : Own wa w.heap.size 1 _ _ (u8s l) := hown.below ha (fun g hg => (hown.ge g hg).2)
      have hbl1 := hbl.trans (ha.mono hsz)
      cases he : ((packZ ⟨l.toArray⟩).toList == s.toList) with
      | true =>
        have HN := Lib.hid (unz_yes (pack_eq he) hl)
        go_wp2_with (with_reducible refine str_law (o := ⟨some 76, _, _, _, _, _⟩) _ rfl _ rfl hown1.at_ rfl ?_)
        go_ret2
        exact ⟨by rw [HN.out]; rfl, hbl1⟩
      | false =>
        have HN := Lib.hid (unz_no (uinv_last HU.out hpS (pack_ne he)))
        go_wp2_with fail
        go_ret2
        exact ⟨by rw [HN.out]; rfl, hbl1⟩

set_option maxRecDepth 100000 in
set_option maxHeartbeats 4000000 in
theorem unz_spec (s : ByteArray) (w : World) (hs : s.size ≤ 1099511627775) :
    Calls Try.prog 55 #[.string s] w fun e w' => e = .returned (.tuple #[.string (unzT s).1, .bool (unzT s).2]) ∧ Below w.heap.size w w' := by
  have hs' : s.size ≤ 1099511627776 := by omega
  go_enter Try.func55, Try.ntmps55
  go_wp2_with fail
  go_loopw [4, 5] (fun v i wr => ∃ (p : Nat) (t : ByteArray), p ≤ s.size ∧ i = .int .i64 p ∧ t.size ≤ 20000 ∧ v = .string t ∧ Hid (UInv s.data.toList t.data.toList p) ∧ Below w.heap.size w wr) (fun _ i _ => s.size - (intOf i).toNat)
  case atStart => exact ⟨0, ⟨#[]⟩, Nat.zero_le _, rfl, Nat.zero_le _, rfl, Lib.hid (uinv_0 _), Below.refl _ _⟩
  case round =>
    obtain ⟨p, t, hp, rfl, hl, rfl, HU, hbl⟩ := hrel
    have hsz := hbl.size
    by_cases hlt : p < s.size
    · have hltS : p < s.data.toList.length := by rw [S_len]; exact hlt
      rcases decA_cases s p with h | ⟨q, n, k, hq, h, h1, h2, h3, h4, _⟩
      · have HN := Lib.hid (unz_no (u_no1 HU.out hltS (S_dec0 s h)))
        have HG' := Lib.hid (unpA_no h)
        have HD := Lib.hid h; clear h
        go_wp2_with fail
        refine (decv_spec_at _ hs' HD.out).mono ?_
        rintro e wa ⟨rfl, ha⟩
        have hbl1 := hbl.trans (ha.mono hsz)
        have hsz1 := hbl1.size
        go_wp2_with fail
        refine (unp_spec_at hs' HG'.out _).mono ?_
        rintro e wb ⟨rfl, hb⟩
        go_wp2_with fail
        go_ret2
        exact ⟨by rw [HN.out]; rfl, hbl1.trans (hb.mono hsz1)⟩
      · obtain rfl : q = p := by omega
        clear hq
        rcases decA_cases s ((q + k : Nat) : Int) with g | ⟨q2, v, m, hq2, g, g1, g2, g3, g4, _⟩
        · have HN := Lib.hid (unz_no (u_no3 HU.out hltS (S_dec s h) (S_dec0 s g)))
          have HD := Lib.hid h; clear h
          have HG := unpA_no g
          rw [Int.natCast_add] at HG
          have HG' := Lib.hid HG; clear HG g
          go_wp2_with fail
          refine (decv_spec_at _ hs' HD.out).mono ?_
          rintro e wa ⟨rfl, ha⟩
          have hbl1 := hbl.trans (ha.mono hsz)
          have hsz1 := hbl1.size
          go_wp2_with fail
          refine (unp_spec_at hs' HG'.out _).mono ?_
          rintro e wb ⟨rfl, hb⟩
          go_wp2_with fail
          go_ret2
          exact ⟨by rw [HN.out]; rfl, hbl1.trans (hb.mono hsz1)⟩
        · obtain rfl : q2 = q + k := by omega
          clear hq2
          by_cases hb2 : (v : Int) ≤ (s.size : Int) - ((q + k : Nat) : Int) - m
          · have HG := unpA_yes g hb2
            rw [Int.natCast_add] at HG
            have hTs : (s.extract (q + k + m) (q + k + m + v)).size = v := by rw [ByteArray.size_extract]; omega
            by_cases hb3 : 20000 < t.size + n + v
            · have HN := Lib.hid (unz_no (u_no5 HU.out hltS (S_dec s h) (S_dec s g) (by rw [S_len]; exact hb3)))
              have HD := Lib.hid h; clear h
              have HG' := Lib.hid HG; clear HG g
              go_wp2_with fail
              refine (decv_spec_at _ hs' HD.out).mono ?_
              rintro e wa ⟨rfl, ha⟩
              have hbl1 := hbl.trans (ha.mono hsz)
              have hsz1 := hbl1.size
              go_wp2_with fail
              refine (unp_spec_at hs' HG'.out _).mono ?_
              rintro e wb ⟨rfl, hb⟩
              go_wp2_with fail
              go_ret2
              exact ⟨by rw [HN.out]; rfl, hbl1.trans (hb.mono hsz1)⟩
            · have hq1 : q + k + m + v ≤ s.size := by omega
              have HX := Lib.hid (u_ext HU.out hlt h g)
              obtain ⟨T, hT⟩ : ∃ T, T = s.extract (q + k + m) (q + k + m + v) := ⟨_, rfl⟩
              rw [← hT] at HG hTs HX
              obtain ⟨Z, hZ⟩ : ∃ Z : ByteArray, Z = ⟨Array.replicate n (0 : UInt8)⟩ := ⟨_, rfl⟩
              have hZs : Z.size = n := by rw [hZ]; show (Array.replicate n (0 : UInt8)).size = n; simp
              have HX2 : Hid (UInv s.data.toList ((t ++ Z) ++ T).data.toList (q + k + m + v)) := Lib.hid (by
                have := HX.out
                rw [ByteArray.data_append, Array.toList_append, ByteArray.data_append, Array.toList_append, hZ]
                simpa using this)
              have hlen : ((t ++ Z) ++ T).size ≤ 20000 := by
                rw [ByteArray.size_append, ByteArray.size_append]
                omega
              have HZ := Lib.hid hZ
              have HD := Lib.hid h; clear h
              have HG' := Lib.hid HG; clear HG g hT hZ
              go_wp2_with fail
              refine (decv_spec_at _ hs' HD.out).mono ?_
              rintro e wa ⟨rfl, ha⟩
              have hbl1 := hbl.trans (ha.mono hsz)
              have hsz1 := hbl1.size
              go_wp2_with fail
              refine (unp_spec_at hs' HG'.out _).mono ?_
              rintro e wb ⟨rfl, hb⟩
              have hbl2 := hbl1.trans (hb.mono hsz1)
              have hsz2 := hbl2.size
              go_wp2_with (with_reducible refine make_u8 (o := ⟨some 50, _, _, _, _, _⟩) _ rfl _ _ rfl w.heap.size n rfl rfl (by omega) hsz2 ?_)
              intro wc hownz hg
              have hbl3 := hbl2.grown hg hsz2 (fun k h => by cases h)
              clear hg
              go_wp2_with (with_reducible refine str_law (o := ⟨some 51, _, _, _, _, _⟩) _ rfl _ rfl hownz.at_ rfl ?_)
              rw [← HZ.out]
              exact ⟨⟨q + k + m + v, _, hq1, by go_num, hlen, rfl, HX2, hbl3⟩, by simp [intOf]; omega⟩
          · have HN := Lib.hid (unz_no (u_no4 HU.out hltS (S_dec s h) (S_dec s g) (by rw [S_len]; omega)))
            have HG := unpA_big g (by omega)
            rw [Int.natCast_add] at HG
            have HD := Lib.hid h; clear h
            have HG' := Lib.hid HG; clear HG g
            go_wp2_with fail
            refine (decv_spec_at _ hs' HD.out).mono ?_
            rintro e wa ⟨rfl, ha⟩
            have hbl1 := hbl.trans (ha.mono hsz)
            have hsz1 := hbl1.size
            go_wp2_with fail
            refine (unp_spec_at hs' HG'.out _).mono ?_
            rintro e wb ⟨rfl, hb⟩
            go_wp2_with fail
            go_ret2
            exact ⟨by rw [HN.out]; rfl, hbl1.trans (hb.mono hsz1)⟩
    · have hpS : s.data.toList.length ≤ p := by rw [S_len]; omega
      have HL : Hid (t.size ≤ 1099511627775) := Lib.hid (by omega)
      go_wp2_with fail
      refine (zer_spec _ _ HL.out).mono ?_
      rintro e wa ⟨rfl, ha⟩
      have hbl1 := hbl.trans (ha.mono hsz)
      have ht : t = ⟨t.data.toList.toArray⟩ := by simp
      cases he : ((packZ t).toList == s.toList) with
      | true =>
        have HN := Lib.hid (unz_yes (t := t.data.toList) (pack_eq (by rw [← ht]; exact he)) (by rw [S_len]; exact hl))
        go_wp2_with fail
        go_ret2
        exact ⟨by rw [HN.out]; rfl, hbl1⟩
      | false =>
        have HN := Lib.hid (unz_no (uinv_last HU.out hpS (pack_ne (by rw [← ht]; exact he))))
        go_wp2_with fail
        go_ret2
        exact ⟨by rw [HN.out]; rfl, hbl1⟩
end Go.Proofs.Ytmnddbgblhmlbaa
