/- WorldBytes and WorldSum, the program's and the reference's. -/
import Derived.Test.YtkcknikaidbeoaaWos
import Derived.Test.YtkcknikaidbeoaaWbLaw
import Derived.Test.YtkcknikaidbeoaaPkI
namespace Go.Proofs.Ytkcknikaidbeoaa
open Go.RowKit

section
variable {ops : Array Oper} {rest : List Oper} {o : Oper} {a : Act} {Q : Exit → Act → World → Prop}
theorem intc_one (l : List Int) : ∀ u ∈ ints l, u.oneCell' = true := by
  intro u hu
  obtain ⟨_, _, rfl⟩ := List.mem_map.1 hu
  rfl
theorem ints_len (l : List Int) : (ints l).length = l.length := by simp [ints]
theorem ints_app (l r : List Int) : ints l ++ ints r = ints (l ++ r) := by simp [ints]
theorem Own.fitI {w : World} {base n : Nat} {v : Value} {l : List Int} (h : Own w base 1 v n (ints l)) : Own w base 1 v l.length (ints l) := by
  have e := h.len
  rw [ints_len, Nat.mul_one] at e
  rw [e]; exact h
/-- 'append(out, l...)' on a []int -/
theorem app_il (w : World) (hgd : o.guard = none) (s x : Operand) (ho : o.op = .call { callee := .builtin .append, args := #[s, x], argTypes := #[42, 42] }) (base : Nat)
    {v : Value} {n : Nat} {l : List Int} (hown : Own w base 1 v n (ints l)) (hv : a.eval s = v) {xv : Value} {m : Nat} {news : List Int} (hat : At w 1 xv m (ints news)) (hx : a.eval x = xv)
    (hbytes : (n + m) * 8 ≤ 140737488355328) (hbase : base ≤ w.heap.size)
    (hK : ∀ v' w', Own w' base 1 v' (l ++ news).length (ints (l ++ news)) → w.grownBy w' v.ownBlock → wpList Try.prog ops Q rest (a.put o.dst v') w') :
    wpList Try.prog ops Q (o :: rest) a w := by
  obtain ⟨i0, hi, hz0, hz1, hz2⟩ := info_parts info_int
  refine wpList_append_o (P := Try.prog) w hgd s x 42 42 ho base 3 i0 (.int .i64 0) 1 8 Try.underlying42 hi hz0 hz1 hz2 rfl hv hown _ m _ hx
    (src_at (P := Try.prog) Try.underlying42 hat (intc_one _)) (by unfold maxLen; omega) (by omega) (by omega) (fun v' w' h1 h2 h3 => ?_)
  rw [ints_app] at h1
  exact hK v' w' h1.fitI h2
/-- 'append(out, x, ..)' on a []int: the new elements lie in a block that was just laid -/
theorem app_ib (w : World) (C : Array Value) (hgd : o.guard = none) (s x : Operand) (ho : o.op = .call { callee := .builtin .append, args := #[s, x], argTypes := #[42, 42] }) (base : Nat)
    {v : Value} {n : Nat} {l : List Int} (hown : Own w base 1 v n (ints l)) (hv : a.eval s = v) (m c : Nat) (news : List Int) (hx : a.eval x = .slice (some ⟨w.heap.size, 0, none⟩) m c) (hC : Hid (C.toList = ints news)) (hm : m = news.length)
    (hbytes : (n + m) * 8 ≤ 140737488355328) (hbase : base ≤ w.heap.size)
    (hK : ∀ v' w', Own w' base 1 v' (l ++ news).length (ints (l ++ news)) → w.grownBy w' v.ownBlock → wpList Try.prog ops Q rest (a.put o.dst v') w') :
    wpList Try.prog ops Q (o :: rest) a (w.alloc (.cells C 3 (0, 0))) := by
  obtain ⟨i0, hi, hz0, hz1, hz2⟩ := info_parts info_int
  refine wpList_append_o (P := Try.prog) (w.alloc (.cells C 3 (0, 0))) hgd s x 42 42 ho base 3 i0 (.int .i64 0) 1 8 Try.underlying42 hi hz0 hz1 hz2 rfl hv (hown.alloc _) _ m (ints news) hx
    (Src.ofSlice (P := Try.prog) _ (size := 1) Try.underlying42 ⟨w.heap.size, 0, none⟩ m c (ints news) (by rw [ints_len, hm, Nat.mul_one]) (fun j u hu => ?_) (intc_one news))
    (by unfold maxLen; omega) (by omega) (by simp; omega) (fun v' w' h1 h2 h3 => ?_)
  · rw [Addr.add_lit, Nat.zero_add, World.cell?_alloc_new, ← hu, ← hC.out, Array.getElem?_toList]
  · rw [ints_app] at h1
    exact hK v' w' h1.fitI (grownBy_trans (World.grownBy_alloc w _ _) h2)
end
theorem bodyints_ret (b : Bd) (w : World) : Calls Try.prog 108 #[b.val] w fun e w' => ∃ v, e = .returned v ∧ At w' 1 v 9 (ints (intsB b)) ∧ Below w.heap.size w w' := by
  go_enter Try.func108, Try.ntmps108
  go_upto_region 1 with (with_reducible refine box_bod (op := ⟨some 1, _, _, _, _, _⟩) rfl _ _ rfl b rfl ?_)
  generalize hw1 : w.alloc _ = w1
  have hb1 : Below w.heap.size w w1 := by rw [← hw1]; exact (Below.refl _ _).alloc (Nat.le_refl _) _
  have hB1 : Blk w1 w.heap.size b := by rw [← hw1]; exact Blk.newB w _ b
  clear hw1
  obtain ⟨_, c0, c1, c2, c3, c4, c5, c6, c7, c8, _⟩ := id hB1
  go_wp2_with fail
  go_ret
  exact ⟨_, rfl, (Own.lit (base := 0) (n := 9) (cs := ints (intsB b)) 3 rfl rfl (Nat.zero_le _) (by unfold maxLen; omega)).at_, hb1.alloc hb1.size _⟩
theorem okW_sizes {X : Wd} (h : okW X = true) : X.scores.length ≤ 4 ∧ X.bodies.length ≤ 24 := ⟨(okW_ok h).n.2, (okW_ok h).bods.most⟩
set_option maxRecDepth 100000 in
set_option maxHeartbeats 8000000 in
theorem wbytes_impl {u us ub : Value} {X : Wd} (w : World) (h : WAt w u us ub X) (hm : WSmall X) (hw : ∀ b ∈ X.bodies, BWf b) :
    Calls Try.prog 57 #[.agg #[u, .int .i64 X.tick, .int .i64 X.seed, us, ub]] w fun e w' => e = .returned (.string (bytesW X)) ∧ Below w.heap.size w w' := by
  have HOK : ∀ wx, Below w.heap.size w wx → Calls Try.prog 55 #[.agg #[u, .int .i64 X.tick, .int .i64 X.seed, us, ub]] wx fun e w' => e = .returned (.bool (okW X)) ∧ Below wx.heap.size wx w' := fun wx hx => worldok_impl wx (h.below hx) hm hw
  have HNO := Lib.hid (bytesW_no (w := X))
  have HYES := Lib.hid (bytesW_yes (w := X))
  have HSZ := Lib.hid (okW_sizes (X := X))
  have HLW : Hid (listW X = [X.tick, X.seed, (X.scores.length : Int)] ++ X.scores ++ intsBs X.bodies) := Lib.hid rfl
  obtain ⟨hr, hs, hb⟩ := h
  generalize okW X = R at *
  generalize bytesW X = WB at *
  generalize listW X = LW at *
  obtain ⟨rows, tk, sd, sc, bs⟩ := X
  obtain ⟨m0, m1, m2, m3⟩ := hm
  simp only at hr hs hb m0 m1 m2 m3 HOK HNO HYES HSZ HLW ⊢
  clear hr m0 m1
  have os := slice_one hs
  have ob := slice_one hb
  have hs0 := hs
  have hb0 := hb
  obtain ⟨so, scap, rfl, hsc⟩ := hs.cell
  obtain ⟨bo, bcap, rfl, hbc⟩ := hb.cellB
  clear hsc
  go_enter Try.func57, Try.ntmps57
  go_upto_region 1 with (fail)
  generalize hw1 : w.alloc _ = w1
  have hb1 : Below w.heap.size w w1 := by rw [← hw1]; exact (Below.refl _ _).alloc (Nat.le_refl _) _
  have hA1 : WBlk w1 w.heap.size u tk sd (.slice so sc.length scap) (.slice bo bs.length bcap) := by rw [← hw1]; exact WBlk.new w _ u tk sd _ _
  clear hw1
  go_wp2_with (with_reducible refine load_wld (op := ⟨some 6, _, _, _, _, _⟩) rfl _ rfl w.heap.size rfl u tk sd (.slice so sc.length scap) (.slice bo bs.length bcap) hA1.range ?_)
  refine (HOK _ hb1).mono ?_
  rintro e wa ⟨rfl, ha⟩
  have hba := hb1.trans (ha.mono hb1.size)
  have hAa := hA1.below ha hA1.lt
  clear ha hA1 hb1 HOK
  cases R with
  | false =>
    have HN := Lib.hid (HNO.out rfl)
    go_wp2_with fail
    go_ret
    exact ⟨by rw [HN.out]; rfl, hba⟩
  | true =>
  obtain ⟨hs4, hb24⟩ := HSZ.out rfl
  have HN := Lib.hid (HYES.out rfl)
  clear HSZ HNO HYES
  obtain ⟨_, c0, c1, c2, c3, c4, _⟩ := id hAa
  have hBa := hAa.lt
  have hX : Own (wa.alloc (.cells #[.int .i64 tk, .int .i64 sd, .int .i64 (sc.length : Int)] 3)) wa.heap.size 1 (.slice (some ⟨wa.heap.size, 0, none⟩) 3 3) 3 (ints [tk, sd, (sc.length : Int)]) := Own.lit 3 rfl rfl (Nat.le_refl _) (by unfold maxLen; omega)
  have hW : Below wa.heap.size wa (wa.alloc (.cells #[.int .i64 tk, .int .i64 sd, .int .i64 (sc.length : Int)] 3)) := (Below.refl _ _).alloc (Nat.le_refl _) _
  have hSat := hs0.below (hba.trans (hW.mono hba.size))
  go_wp2_with (with_reducible refine app_il (o := ⟨some 20, _, _, _, _, _⟩) _ rfl _ _ rfl wa.heap.size hX rfl hSat rfl (by omega) (by simp) ?_)
  intro v1 wb hO hg
  replace hO : Own wb wa.heap.size 1 v1 ([tk, sd, (sc.length : Int)] ++ sc).length (ints ([tk, sd, (sc.length : Int)] ++ sc)) := hO
  obtain ⟨B, hB⟩ : ∃ B, wa.heap.size = B := ⟨_, rfl⟩
  have hbb : Below w.heap.size w wb := (hba.trans (hW.mono hba.size)).grown hg (by simp; omega) (fun k hk => by simp only [Value.ownBlock, Option.some.injEq] at hk; omega)
  have hAb : WBlk wb w.heap.size u tk sd (.slice so sc.length scap) (.slice bo bs.length bcap) := (hAa.below hW hBa).grown hg (by simp only [Value.ownBlock, ne_eq, Option.some.injEq]; omega)
  rw [hB] at hO hBa
  have hsb : B ≤ wb.heap.size := by have := hg.size; rw [World.size_alloc] at this; omega
  clear hg hX hW hSat hba hAa c0 c1 c2 c3 c4 hB
  have HL0 : Hid ([tk, sd, (sc.length : Int)] ++ sc = [tk, sd, (sc.length : Int)] ++ sc ++ intsBs (bs.take 0)) := Lib.hid (by simp [intsBs])
  have hl0 : ([tk, sd, (sc.length : Int)] ++ sc).length ≤ 7 := by rw [List.length_append]; simp; omega
  generalize hLL : [tk, sd, (sc.length : Int)] ++ sc = L0 at *
  obtain ⟨vo, vc, rfl⟩ := hO.slice_
  obtain ⟨_, c0, c1, c2, c3, c4, _⟩ := id hAb
  go_wp2_with fail
  go_loopw [3, 24] (fun v i wx => ∃ (k : Nat) (L : List Int), k ≤ bs.length ∧ i = .int .i64 k ∧ Own wx B 1 v L.length (ints L) ∧ L.length ≤ 7 + 9 * k ∧ Hid (L = L0 ++ intsBs (bs.take k)) ∧ WBlk wx w.heap.size u tk sd (.slice so sc.length scap) (.slice bo bs.length bcap) ∧ Below w.heap.size w wx ∧ B ≤ wx.heap.size) (fun _ i _ => bs.length - (intOf i).toNat)
  case atStart => exact ⟨0, L0, Nat.zero_le _, rfl, hO, hl0, HL0, hAb, hbb, hsb⟩
  case round =>
    clear hO hl0 HL0 hAb hbb hsb c0 c1 c2 c3 c4
    obtain ⟨k, L, hk, rfl, hO, hL, HL, hA, hbl, hs1⟩ := hrel
    obtain ⟨vo, vc, rfl⟩ := hO.slice_
    obtain ⟨_, c0, c1, c2, c3, c4, _⟩ := id hA
    by_cases hlt : k < bs.length
    · obtain ⟨g, off, rfl, hg, _⟩ := hbc (by omega)
      clear hbc
      have HR := ((hb0.elem hlt).below hbl hg).range
      have HNX : Hid (L ++ intsB (bAt bs k) = L0 ++ intsBs (bs.take (k + 1))) := Lib.hid (by rw [intsBs_succ hlt, HL.out, bAt_eq hlt, List.append_assoc])
      obtain ⟨b, hbq⟩ : ∃ b, bAt bs k = b := ⟨_, rfl⟩
      rw [hbq] at HR HNX
      clear hbq
      go_upto_region 8 with (first | (with_reducible refine load_bod (op := ⟨some 27, _, _, _, _, _⟩) rfl _ rfl g (off + k * 9) rfl b HR ?_) | (with_reducible refine store_bod (op := ⟨none, _, _, _, _, _⟩) rfl _ _ rfl wr.heap.size 0 rfl b rfl (zthere _ _) ?_))
      have hq := newB hbl hbl.size 56 b
      generalize hwn : World.setCells (World.alloc wr _) _ _ _ = wn
      rw [hwn] at hq
      obtain ⟨hBn, hbn, hkn⟩ := hq
      have hAn := hA.below hkn hA.lt
      have hOn := hO.belowS hkn
      have hsn : B ≤ wn.heap.size := by have := hkn.size; omega
      clear hwn hkn hA hO hbl hs1 c0 c1 c2 c3 c4 HR
      go_wp2_with (with_reducible refine load_bod (op := ⟨some 29, _, _, _, _, _⟩) rfl _ rfl wr.heap.size 0 rfl b hBn.range ?_)
      refine (bodyints_ret b _).mono ?_
      rintro e wc ⟨y, rfl, hy, hc⟩
      have hAc := hAn.below hc hAn.lt
      have hOc := hOn.belowS hc
      have hbc2 := hbn.trans (hc.mono hbn.size)
      have hsc : B ≤ wc.heap.size := by have := hc.size; omega
      clear hc hAn hOn hbn hsn hBn
      go_wp2_with (with_reducible refine app_il (o := ⟨some 31, _, _, _, _, _⟩) _ rfl _ _ rfl B hOc rfl hy rfl (by omega) hsc ?_)
      intro v' wd hOd hgd
      replace hOd : Own wd B 1 v' (L ++ intsB b).length (ints (L ++ intsB b)) := by rw [List.length_append]; exact hOd
      have hbd : Below w.heap.size w wd := hbc2.grown hgd hbc2.size (fun q hq => by have := (hOc.ge q hq).1; omega)
      have hAd := hAc.grown hgd (fun e => by have := (hOc.ge _ e).1; omega)
      have hsd : B ≤ wd.heap.size := by have := hgd.size; omega
      clear hgd hOc hAc hbc2 hsc hy
      have hlen : (L ++ intsB b).length ≤ 7 + 9 * (k + 1) := by rw [List.length_append]; simp [intsB]; omega
      go_wp2_with fail
      go_roundw
      case rel => exact ⟨k + 1, L ++ intsB b, by omega, by go_num, hOd, hlen, HNX, hAd, hbd, hsd⟩
      case measure => simp [intOf]; omega
    · have HP : Hid (WB = packI L) := Lib.hid (by
        rw [HN.out, HLW.out, HL.out, show k = bs.length by omega, List.take_length])
      clear hLL
      go_wp2_with fail
      refine (pki_impl _ hO.at_ (by omega)).mono ?_
      rintro e wz ⟨rfl, hz⟩
      go_wp2_with fail
      go_ret
      exact ⟨by rw [HP.out]; rfl, hbl.trans (hz.mono hbl.size)⟩
set_option maxRecDepth 100000 in
set_option maxHeartbeats 8000000 in
theorem wbytes_spec {u us ub : Value} {X : Wd} (w : World) (h : WAt w u us ub X) (hm : WSmall X) :
    Calls Try.prog 56 #[.agg #[u, .int .i64 X.tick, .int .i64 X.seed, us, ub]] w fun e w' => e = .returned (.string (bytesW X)) ∧ Below w.heap.size w w' := by
  have HOK : ∀ wx, Below w.heap.size w wx → Calls Try.prog 54 #[.agg #[u, .int .i64 X.tick, .int .i64 X.seed, us, ub]] wx fun e w' => e = .returned (.bool (okW X)) ∧ Below wx.heap.size wx w' := fun wx hx => worldok_spec wx (h.below hx) hm
  have HNO := Lib.hid (bytesW_no (w := X))
  have HYES := Lib.hid (bytesW_yes (w := X))
  have HSZ := Lib.hid (okW_sizes (X := X))
  have HLW : Hid (listW X = [X.tick, X.seed, (X.scores.length : Int)] ++ X.scores ++ intsBs X.bodies) := Lib.hid rfl
  obtain ⟨hr, hs, hb⟩ := h
  generalize okW X = R at *
  generalize bytesW X = WB at *
  generalize listW X = LW at *
  obtain ⟨rows, tk, sd, sc, bs⟩ := X
  obtain ⟨m0, m1, m2, m3⟩ := hm
  simp only at hr hs hb m0 m1 m2 m3 HOK HNO HYES HSZ HLW ⊢
  clear hr m0 m1
  have os := slice_one hs
  have ob := slice_one hb
  have hs0 := hs
  have hb0 := hb
  obtain ⟨so, scap, rfl, hsc⟩ := hs.cell
  obtain ⟨bo, bcap, rfl, hbc⟩ := hb.cellB
  clear hsc
  go_enter Try.func56, Try.ntmps56
  go_upto_region 1 with (fail)
  generalize hw1 : w.alloc _ = w1
  have hb1 : Below w.heap.size w w1 := by rw [← hw1]; exact (Below.refl _ _).alloc (Nat.le_refl _) _
  have hA1 : WBlk w1 w.heap.size u tk sd (.slice so sc.length scap) (.slice bo bs.length bcap) := by rw [← hw1]; exact WBlk.new w _ u tk sd _ _
  clear hw1
  go_wp2_with (with_reducible refine load_wld (op := ⟨some 6, _, _, _, _, _⟩) rfl _ rfl w.heap.size rfl u tk sd (.slice so sc.length scap) (.slice bo bs.length bcap) hA1.range ?_)
  refine (HOK _ hb1).mono ?_
  rintro e wa ⟨rfl, ha⟩
  have hba := hb1.trans (ha.mono hb1.size)
  have hAa := hA1.below ha hA1.lt
  clear ha hA1 hb1 HOK
  cases R with
  | false =>
    have HN := Lib.hid (HNO.out rfl)
    go_wp2_with fail
    go_ret
    exact ⟨by rw [HN.out]; rfl, hba⟩
  | true =>
  obtain ⟨hs4, hb24⟩ := HSZ.out rfl
  have HN := Lib.hid (HYES.out rfl)
  clear HSZ HNO HYES
  obtain ⟨_, c0, c1, c2, c3, c4, _⟩ := id hAa
  have hBa := hAa.lt
  have hX : Own (wa.alloc (.cells #[.int .i64 tk, .int .i64 sd, .int .i64 (sc.length : Int)] 3)) wa.heap.size 1 (.slice (some ⟨wa.heap.size, 0, none⟩) 3 3) 3 (ints [tk, sd, (sc.length : Int)]) := Own.lit 3 rfl rfl (Nat.le_refl _) (by unfold maxLen; omega)
  have hW : Below wa.heap.size wa (wa.alloc (.cells #[.int .i64 tk, .int .i64 sd, .int .i64 (sc.length : Int)] 3)) := (Below.refl _ _).alloc (Nat.le_refl _) _
  have hSat := hs0.below (hba.trans (hW.mono hba.size))
  go_wp2_with (with_reducible refine app_il (o := ⟨some 19, _, _, _, _, _⟩) _ rfl _ _ rfl wa.heap.size hX rfl hSat rfl (by omega) (by simp) ?_)
  intro v1 wb hO hg
  replace hO : Own wb wa.heap.size 1 v1 ([tk, sd, (sc.length : Int)] ++ sc).length (ints ([tk, sd, (sc.length : Int)] ++ sc)) := hO
  obtain ⟨B, hB⟩ : ∃ B, wa.heap.size = B := ⟨_, rfl⟩
  have hbb : Below w.heap.size w wb := (hba.trans (hW.mono hba.size)).grown hg (by simp; omega) (fun k hk => by simp only [Value.ownBlock, Option.some.injEq] at hk; omega)
  have hAb : WBlk wb w.heap.size u tk sd (.slice so sc.length scap) (.slice bo bs.length bcap) := (hAa.below hW hBa).grown hg (by simp only [Value.ownBlock, ne_eq, Option.some.injEq]; omega)
  rw [hB] at hO hBa
  have hsb : B ≤ wb.heap.size := by have := hg.size; rw [World.size_alloc] at this; omega
  clear hg hX hW hSat hba hAa c0 c1 c2 c3 c4 hB
  have HL0 : Hid ([tk, sd, (sc.length : Int)] ++ sc = [tk, sd, (sc.length : Int)] ++ sc ++ intsBs (bs.take 0)) := Lib.hid (by simp [intsBs])
  have hl0 : ([tk, sd, (sc.length : Int)] ++ sc).length ≤ 7 := by rw [List.length_append]; simp; omega
  generalize hLL : [tk, sd, (sc.length : Int)] ++ sc = L0 at *
  obtain ⟨vo, vc, rfl⟩ := hO.slice_
  obtain ⟨_, c0, c1, c2, c3, c4, _⟩ := id hAb
  go_wp2_with fail
  go_loopw [3, 4] (fun v i wx => ∃ (k : Nat) (L : List Int), k ≤ bs.length ∧ i = .int .i64 k ∧ Own wx B 1 v L.length (ints L) ∧ L.length ≤ 7 + 9 * k ∧ Hid (L = L0 ++ intsBs (bs.take k)) ∧ WBlk wx w.heap.size u tk sd (.slice so sc.length scap) (.slice bo bs.length bcap) ∧ Below w.heap.size w wx ∧ B ≤ wx.heap.size) (fun _ i _ => bs.length - (intOf i).toNat)
  case atStart => exact ⟨0, L0, Nat.zero_le _, rfl, hO, hl0, HL0, hAb, hbb, hsb⟩
  case round =>
    clear hO hl0 HL0 hAb hbb hsb c0 c1 c2 c3 c4
    obtain ⟨k, L, hk, rfl, hO, hL, HL, hA, hbl, hs1⟩ := hrel
    obtain ⟨vo, vc, rfl⟩ := hO.slice_
    obtain ⟨_, c0, c1, c2, c3, c4, _⟩ := id hA
    by_cases hlt : k < bs.length
    · obtain ⟨g, off, rfl, hg, _⟩ := hbc (by omega)
      clear hbc
      have HR := ((hb0.elem hlt).below hbl hg).range
      have HNX : Hid (L ++ intsB (bAt bs k) = L0 ++ intsBs (bs.take (k + 1))) := Lib.hid (by rw [intsBs_succ hlt, HL.out, bAt_eq hlt, List.append_assoc])
      obtain ⟨b, hbq⟩ : ∃ b, bAt bs k = b := ⟨_, rfl⟩
      rw [hbq] at HR HNX
      clear hbq
      go_upto_region 8 with (first | (with_reducible refine load_bod (op := ⟨some 31, _, _, _, _, _⟩) rfl _ rfl g (off + k * 9) rfl b HR ?_) | (with_reducible refine store_bod (op := ⟨none, _, _, _, _, _⟩) rfl _ _ rfl wr.heap.size 0 rfl b rfl (zthere _ _) ?_))
      have hq := newB hbl hbl.size 56 b
      generalize hwn : World.setCells (World.alloc wr _) _ _ _ = wn
      rw [hwn] at hq
      obtain ⟨hBn, hbn, hkn⟩ := hq
      have hAn := hA.below hkn hA.lt
      have hOn := hO.belowS hkn
      have hsn : B ≤ wn.heap.size := by have := hkn.size; omega
      clear hwn hkn hA hO hbl hs1 c0 c1 c2 c3 c4 HR
      obtain ⟨_, d0, d1, d2, d3, d4, d5, d6, d7, d8, _⟩ := id hBn
      have HC : Hid ((#[.int .i64 b.kind, .int .i64 b.owner, .int .i64 b.x, .int .i64 b.y, .int .i64 b.vx, .int .i64 b.vy, .int .i64 b.aim, .int .i64 b.life, .int .i64 b.timer] : Array Value).toList = ints (intsB b)) := Lib.hid rfl
      go_wp2_with (with_reducible refine app_ib (o := ⟨some 52, _, _, _, _, _⟩) _ _ rfl _ _ rfl B hOn rfl 9 9 (intsB b) rfl HC rfl (by omega) hsn ?_)
      intro v' wd hOd hgd
      replace hOd : Own wd B 1 v' (L ++ intsB b).length (ints (L ++ intsB b)) := by rw [List.length_append]; exact hOd
      have hbd : Below w.heap.size w wd := hbn.grown hgd hbn.size (fun q hq => by have := (hOn.ge q hq).1; omega)
      have hAd := hAn.grown hgd (fun e => by have := (hOn.ge _ e).1; omega)
      have hsd : B ≤ wd.heap.size := by have := hgd.size; omega
      clear hgd hOn hAn hbn hsn hBn d0 d1 d2 d3 d4 d5 d6 d7 d8
      have hlen : (L ++ intsB b).length ≤ 7 + 9 * (k + 1) := by rw [List.length_append]; simp [intsB]; omega
      go_wp2_with fail
      go_roundw
      case rel => exact ⟨k + 1, L ++ intsB b, by omega, by go_num, hOd, hlen, HNX, hAd, hbd, hsd⟩
      case measure => simp [intOf]; omega
    · have HP : Hid (WB = packI L) := Lib.hid (by
        rw [HN.out, HLW.out, HL.out, show k = bs.length by omega, List.take_length])
      clear hLL
      go_wp2_with fail
      refine (pki_spec _ hO.at_ (by omega)).mono ?_
      rintro e wz ⟨rfl, hz⟩
      go_wp2_with fail
      go_ret
      exact ⟨by rw [HP.out]; rfl, hbl.trans (hz.mono hbl.size)⟩
end Go.Proofs.Ytkcknikaidbeoaa
