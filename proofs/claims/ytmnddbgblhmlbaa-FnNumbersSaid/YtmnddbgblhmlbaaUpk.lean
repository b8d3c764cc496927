/- UnpackInts: the program's and the reference's return the same plain function of the string and the place. -/
import Derived.Test.YtmnddbgblhmlbaaUnz
import Derived.Test.YtmnddbgblhmlbaaInts
namespace Go.Proofs.Ytmnddbgblhmlbaa
open Go.RowKit

section
variable {ops : Array Oper} {rest : List Oper} {o : Oper} {a : Act} {Q : Exit → Act → World → Prop}
theorem ints_one (l : List Int) : ∀ u ∈ l.map (Value.int .i64), u.oneCell' = true := by
  intro u hu
  obtain ⟨_, _, rfl⟩ := List.mem_map.1 hu
  rfl
/-- 'append(out, x)' on a []int: the new element lies in a block that was just laid. -/
theorem app_int (w : World) (C : Array Value) (hgd : o.guard = none) (s x : Operand) (ho : o.op = .call { callee := .builtin .append, args := #[s, x], argTypes := #[27, 27] }) (base : Nat)
    {v : Value} {n : Nat} {l : List Int} (hown : Own w base 1 v n (l.map (Value.int .i64))) (hv : a.eval s = v) (m c : Nat) (news : List Int) (hx : a.eval x = .slice (some ⟨w.heap.size, 0, none⟩) m c) (hC : Hid (C.toList = news.map (Value.int .i64))) (hm : m = news.length)
    (hbytes : (n + m) * 8 ≤ 140737488355328) (hbase : base ≤ w.heap.size)
    (hK : ∀ v' w', Own w' base 1 v' (n + m) ((l ++ news).map (Value.int .i64)) → w.grownBy w' v.ownBlock → wpList Try.prog ops Q rest (a.put o.dst v') w') :
    wpList Try.prog ops Q (o :: rest) a (w.alloc (.cells C 3 (0, 0))) := by
  obtain ⟨i0, hi, hz0, hz1, hz2⟩ := info_parts info_int
  refine wpList_append_o (P := Try.prog) (w.alloc (.cells C 3 (0, 0))) hgd s x 27 27 ho base 3 i0 (.int .i64 0) 1 8 Try.underlying27 hi hz0 hz1 hz2 rfl hv (hown.alloc _) _ m (news.map (Value.int .i64)) hx
    (Src.ofSlice (P := Try.prog) _ (size := 1) Try.underlying27 ⟨w.heap.size, 0, none⟩ m c (news.map (Value.int .i64)) (by rw [List.length_map, hm, Nat.mul_one]) (fun j u hu => ?_) (ints_one news))
    (by unfold maxLen; omega) (by omega) (by simp; omega) (fun v' w' h1 h2 _ => ?_)
  · rw [Addr.add_lit, Nat.zero_add, World.cell?_alloc_new, ← hu, ← hC.out, Array.getElem?_toList]
  · rw [← List.map_append] at h1
    exact hK v' w' h1 (grownBy_trans (World.grownBy_alloc w _ _) h2)
/-- 'make([]int, 0, n)' -/
theorem make0_int (w : World) (hgd : o.guard = none) (l c : Operand) (ho : o.op = Op.makeSlice 27 l c) (base n : Nat) (C : Int) (hl : a.eval l = .int .i64 0) (hc : a.eval c = .int .i64 C) (hC : C = (n : Int)) (hn : n ≤ 17592186044416) (hbase : base ≤ w.heap.size)
    (hK : ∀ w', Own w' base 1 (.slice (some ⟨w.heap.size, 0, none⟩) 0 n) 0 (([] : List Int).map (Value.int .i64)) → w.grownBy w' none → wpList Try.prog ops Q rest (a.put o.dst (.slice (some ⟨w.heap.size, 0, none⟩) 0 n)) w') :
    wpList Try.prog ops Q (o :: rest) a w := by
  obtain ⟨i0, hi, hz0, hz1, hz2⟩ := info_parts info_int
  exact wpList_make_own (P := Try.prog) w hgd l c 27 ho base 3 i0 (.int .i64 0) 1 Try.underlying27 hi hz0 hz1 .i64 .i64 C n hl hc hC (by rw [hz2]; omega) (by unfold maxLen; omega) hbase (fun w' h1 h2 => hK w' (Own.of_row h1) h2)
end
def upkOk (okb : Bool) (v : Nat) (L : List UInt8) (j : Nat) (l : List Int) (m : Nat) : Prop := (okb = true → rdRel v L j l m) ∧ (okb = false → rdI v L = none)
theorem Own.fitI {w : World} {base n : Nat} {v : Value} {l : List Int} (h : Own w base 1 v n (l.map (Value.int .i64))) : Own w base 1 v l.length (l.map (Value.int .i64)) := by
  have e := h.len
  rw [List.length_map, Nat.mul_one] at e
  rw [e]; exact h
theorem Own.fitI2 {w : World} {base n : Nat} {v : Value} {l : List Int} {x : Int} (h : Own w base 1 v n (l.map (Value.int .i64) ++ [Value.int .i64 x])) : Own w base 1 v (l ++ [x]).length ((l ++ [x]).map (Value.int .i64)) := by
  have h' : Own w base 1 v n ((l ++ [x]).map (Value.int .i64)) := by simpa using h
  exact h'.fitI

set_option maxRecDepth 100000 in
set_option maxHeartbeats 4000000 in
theorem upk_impl (s : ByteArray) (p : Int) (w : World) (hs : s.size ≤ 1099511627775) :
    Calls Try.prog 46 #[.string s, .int .i64 p] w fun e w' => ∃ u, e = .returned (.tuple #[u, .int .i64 (unpI s p).2.1, .bool (unpI s p).2.2]) ∧ Own w' w.heap.size 1 u (unpI s p).1.length ((unpI s p).1.map (Value.int .i64)) ∧ Below w.heap.size w w' := by
  have hs' : s.size ≤ 1099511627776 := by omega
  rcases decA_cases s p with h | ⟨q, v, k, rfl, h, h1, h2, h3, h4, _⟩
  · have HN := Lib.hid (unpI_no h)
    have HD := Lib.hid h; clear h
    go_enter Try.func46, Try.ntmps46
    go_wp2_with fail
    refine (decv_impl_at _ hs' HD.out).mono ?_
    rintro e w1 ⟨rfl, rfl⟩
    go_wp2_with fail
    go_ret3
    exact ⟨_, by rw [HN.out]; rfl, by rw [HN.out]; exact Own.nil _ _ _, Below.refl _ _⟩
  · by_cases hb : (v : Int) ≤ (s.size : Int) - (q : Int) - (k : Int)
    · have HD := Lib.hid h
      have HU := fun l m hr => unpI_some (m := m) (l := l) h hr
      have HB := fun hr => unpI_none h hr
      clear h
      go_enter Try.func46, Try.ntmps46
      go_wp2_with fail
      refine (decv_impl_at _ hs' HD.out).mono ?_
      rintro e w1 ⟨rfl, rfl⟩
      go_wp2_with (with_reducible refine make0_int (o := ⟨some 35, _, _, _, _, _⟩) w rfl _ _ rfl w.heap.size v _ rfl rfl rfl (by omega) (Nat.le_refl _) ?_)
      intro w1 hown hg
      have hbl : Below w.heap.size w w1 := (Below.refl _ _).grown hg (Nat.le_refl _) (fun k h => by cases h)
      clear hg
      go_wp2_with fail
      go_loopw [8, 10, 11] (fun ps u i wr => ∃ (j m pn : Nat) (l : List Int), j ≤ v ∧ i = .int .i64 j ∧ ps = .int .i64 pn ∧ pn = k + m ∧ q + pn ≤ s.size ∧ l.length = j ∧ Own wr w.heap.size 1 u l.length (l.map (Value.int .i64)) ∧ Hid (rdRel v (s.data.toList.drop (q + k)) j l m) ∧ Below w.heap.size w wr) (fun _ _ i _ => v - (intOf i).toNat)
      case atStart => exact ⟨0, 0, k, [], Nat.zero_le _, rfl, rfl, rfl, h4, rfl, hown, Lib.hid (rdRel_0 _ _), hbl⟩
      case round =>
        clear hown hbl
        obtain ⟨j, m, pn, l, hj, rfl, rfl, hpn, hq, hlj, hown, HR, hbl⟩ := hrel
        have hsz := hbl.size
        by_cases hlt : j < v
        · rcases decA_cases s ((q + pn : Nat) : Int) with g | ⟨q2, v2, k2, hq2, g, g1, g2, g3, g4, _⟩
          · have hd : decV ((s.data.toList.drop (q + k)).drop m) = (0, 0, false) := by
              rw [List.drop_drop, show q + k + m = q + pn by omega]; exact S_dec0 s g
            have HN := Lib.hid (HB (rdRel_fail HR.out hlt hd))
            rw [Int.natCast_add] at g
            have HG := Lib.hid g; clear g hd hpn
            go_wp2_with fail
            refine (decv_impl_at _ hs' HG.out).mono ?_
            rintro e w1 ⟨rfl, rfl⟩
            go_wp2_with fail
            go_ret3
            exact ⟨_, by rw [HN.out]; rfl, by rw [HN.out]; exact Own.nil _ _ _, hbl⟩
          · obtain rfl : q2 = q + pn := by omega
            have hd : decV ((s.data.toList.drop (q + k)).drop m) = ((v2 : Int), (k2 : Int), true) := by
              rw [List.drop_drop, show q + k + m = q + pn by omega]; exact S_dec s g
            have HR' := Lib.hid (rdRel_more HR.out hlt hd)
            rw [Int.natCast_add] at g
            have HG := Lib.hid g
            have HC : Hid ((#[Value.int .i64 (signed (v2 : Int))] : Array Value).toList = [signed (v2 : Int)].map (Value.int .i64)) := Lib.hid rfl
            have HP := Lib.hid hpn
            have HL := Lib.hid hlj
            clear g hd hpn hlj hq2
            go_wp2_with fail
            refine (decv_impl_at _ hs' HG.out).mono ?_
            rintro e w1 ⟨rfl, rfl⟩
            go_wp2_with fail
            refine (signed_impl _ _).mono ?_
            rintro e w1 ⟨rfl, rfl⟩
            go_wp2_with (with_reducible refine app_int (o := ⟨some 56, _, _, _, _, _⟩) wr _ rfl _ _ rfl w.heap.size hown rfl 1 1 [signed (v2 : Int)] rfl HC rfl (by have := HL.out; omega) hsz ?_)
            intro v' w' hown' hg'
            have hbl' := hbl.trans (hown.below_of hg' (Nat.le_refl _) hsz)
            clear hg'
            have hlj' : (l ++ [signed (v2 : Int)]).length = j + 1 := by rw [List.length_append, HL.out]; rfl
            go_wp2_with fail
            go_roundw
            case rel => exact ⟨j + 1, m + k2, pn + k2, _, by omega, by go_num, by go_num, by have := HP.out; omega, by omega, hlj', hown'.fitI2, HR', hbl'⟩
            case measure => simp [intOf]; omega
        · obtain rfl : j = v := by omega
          have HN := Lib.hid (HU l m (rdRel_end HR.out))
          have HP := Lib.hid hpn
          clear hpn hlj
          go_wp2_with fail
          go_ret3
          refine ⟨_, ?_, by rw [HN.out]; exact hown, hbl⟩
          rw [HN.out, HP.out]
          simp
    · have HN := Lib.hid (unpI_none h (rdI_big (by rw [List.length_drop, S_len]; omega)))
      have HD := Lib.hid h; clear h
      go_enter Try.func46, Try.ntmps46
      go_wp2_with fail
      refine (decv_impl_at _ hs' HD.out).mono ?_
      rintro e w1 ⟨rfl, rfl⟩
      go_wp2_with fail
      go_ret3
      exact ⟨_, by rw [HN.out]; rfl, by rw [HN.out]; exact Own.nil _ _ _, Below.refl _ _⟩
set_option maxRecDepth 100000 in
set_option maxHeartbeats 4000000 in
theorem upk_spec (s : ByteArray) (p : Int) (w : World) (hs : s.size ≤ 1099511627775) :
    Calls Try.prog 52 #[.string s, .int .i64 p] w fun e w' => ∃ u, e = .returned (.tuple #[u, .int .i64 (unpI s p).2.1, .bool (unpI s p).2.2]) ∧ Own w' w.heap.size 1 u (unpI s p).1.length ((unpI s p).1.map (Value.int .i64)) ∧ Below w.heap.size w w' := by
  have hs' : s.size ≤ 1099511627776 := by omega
  rcases decA_cases s p with h | ⟨q, v, k, rfl, h, h1, h2, h3, h4, _⟩
  · have HN := Lib.hid (unpI_no h)
    have HD := Lib.hid h; clear h
    go_enter Try.func52, Try.ntmps52
    go_wp2_with fail
    refine (decv_spec_at _ hs' HD.out).mono ?_
    rintro e wa ⟨rfl, ha⟩
    have hsa := ha.size
    go_wp2_with fail
    go_loopw [8, 9, 10, 11] (fun ps ok u i wr => ps = .int .i64 0 ∧ ok = .bool false ∧ i = .int .i64 0 ∧ Below w.heap.size w wr) (fun _ _ _ _ _ => 0)
    case atStart => exact ⟨rfl, rfl, rfl, ha.alloc hsa _⟩
    case round =>
      obtain ⟨rfl, rfl, rfl, hbl⟩ := hrel
      have hsz := hbl.size
      go_wp2_with fail
      go_ret3
      exact ⟨_, by rw [HN.out]; rfl, by rw [HN.out]; exact Own.lit _ rfl rfl hsz (Nat.zero_le _), hbl.alloc hsz _⟩
  · have HD := Lib.hid h
    have HU := fun l m hr => unpI_some (m := m) (l := l) h hr
    have HB := fun hr => unpI_none h hr
    clear h
    go_enter Try.func52, Try.ntmps52
    go_wp2_with fail
    refine (decv_spec_at _ hs' HD.out).mono ?_
    rintro e wa ⟨rfl, ha⟩
    have hsa := ha.size
    go_wp2_with fail
    go_loopw [8, 9, 10, 11] (fun ps ok u i wr => ∃ (j m pn : Nat) (l : List Int) (okb : Bool), j ≤ v ∧ i = .int .i64 j ∧ ps = .int .i64 pn ∧ ok = .bool okb ∧ pn = k + m ∧ q + pn ≤ s.size ∧ l.length = j ∧ Own wr w.heap.size 1 u l.length (l.map (Value.int .i64)) ∧ Hid (upkOk okb v (s.data.toList.drop (q + k)) j l m) ∧ Below w.heap.size w wr) (fun _ _ _ i _ => v - (intOf i).toNat)
    case atStart => exact ⟨0, 0, k, [], true, Nat.zero_le _, rfl, rfl, rfl, rfl, h4, rfl, Own.lit _ rfl rfl hsa (Nat.zero_le _), Lib.hid ⟨fun _ => rdRel_0 _ _, fun h => by cases h⟩, ha.alloc hsa _⟩
    case round =>
      obtain ⟨j, m, pn, l, okb, hj, rfl, rfl, rfl, hpn, hq, hlj, hown, HR, hbl⟩ := hrel
      have hsz := hbl.size
      cases okb with
      | false =>
        have HN := Lib.hid (HB (HR.out.2 rfl))
        have HP := Lib.hid hpn
        clear hpn hlj
        by_cases hlt : j < v
        all_goals
          go_wp2_with fail
          go_ret3
          exact ⟨_, by rw [HN.out]; rfl, by rw [HN.out]; exact Own.lit _ rfl rfl hsz (Nat.zero_le _), hbl.alloc hsz _⟩
      | true =>
        by_cases hlt : j < v
        · rcases decA_cases s ((q + pn : Nat) : Int) with g | ⟨q2, v2, k2, hq2, g, g1, g2, g3, g4, _⟩
          · have hd : decV ((s.data.toList.drop (q + k)).drop m) = (0, 0, false) := by
              rw [List.drop_drop, show q + k + m = q + pn by omega]; exact S_dec0 s g
            have HR' : Hid (upkOk false v (s.data.toList.drop (q + k)) (j + 1) (l ++ [signed 0]) m) := Lib.hid ⟨(fun h => by cases h), fun _ => rdRel_fail (HR.out.1 rfl) hlt hd⟩
            rw [Int.natCast_add] at g
            have HG := Lib.hid g
            have HC : Hid ((#[Value.int .i64 (signed 0)] : Array Value).toList = [signed 0].map (Value.int .i64)) := Lib.hid rfl
            have HP := Lib.hid hpn
            have HL := Lib.hid hlj
            clear g hd hpn hlj
            go_wp2_with fail
            refine (decv_spec_at _ hs' HG.out).mono ?_
            rintro e wb ⟨rfl, hb⟩
            have hown1 : Own wb w.heap.size 1 _ _ _ := hown.below hb (fun g hg => (hown.ge g hg).2)
            have hbl1 := hbl.trans (hb.mono hsz)
            have hsz1 := hbl1.size
            go_wp2_with fail
            refine (signed_spec _ _).mono ?_
            rintro e w1 ⟨rfl, rfl⟩
            go_wp2_with (with_reducible refine app_int (o := ⟨some 48, _, _, _, _, _⟩) wb _ rfl _ _ rfl w.heap.size hown1 rfl 1 1 [signed 0] rfl HC rfl (by have := HL.out; omega) hsz1 ?_)
            intro v' w' hown' hg'
            have hbl' := hbl1.trans (hown1.below_of hg' (Nat.le_refl _) hsz1)
            clear hg'
            have hlj' : (l ++ [signed 0]).length = j + 1 := by rw [List.length_append, HL.out]; rfl
            go_wp2_with fail
            go_roundw
            case rel => exact ⟨j + 1, m, pn, _, false, by omega, by go_num, by go_num, rfl, HP.out, by omega, hlj', hown'.fitI2, HR', hbl'⟩
            case measure => simp [intOf]; omega
          · obtain rfl : q2 = q + pn := by omega
            have hd : decV ((s.data.toList.drop (q + k)).drop m) = ((v2 : Int), (k2 : Int), true) := by
              rw [List.drop_drop, show q + k + m = q + pn by omega]; exact S_dec s g
            have HR' : Hid (upkOk true v (s.data.toList.drop (q + k)) (j + 1) (l ++ [signed (v2 : Int)]) (m + k2)) := Lib.hid ⟨fun _ => rdRel_more (HR.out.1 rfl) hlt hd, fun h => by cases h⟩
            rw [Int.natCast_add] at g
            have HG := Lib.hid g
            have HC : Hid ((#[Value.int .i64 (signed (v2 : Int))] : Array Value).toList = [signed (v2 : Int)].map (Value.int .i64)) := Lib.hid rfl
            have HP := Lib.hid hpn
            have HL := Lib.hid hlj
            clear g hd hpn hlj hq2
            go_wp2_with fail
            refine (decv_spec_at _ hs' HG.out).mono ?_
            rintro e wb ⟨rfl, hb⟩
            have hown1 : Own wb w.heap.size 1 _ _ _ := hown.below hb (fun g hg => (hown.ge g hg).2)
            have hbl1 := hbl.trans (hb.mono hsz)
            have hsz1 := hbl1.size
            go_wp2_with fail
            refine (signed_spec _ _).mono ?_
            rintro e w1 ⟨rfl, rfl⟩
            go_wp2_with (with_reducible refine app_int (o := ⟨some 48, _, _, _, _, _⟩) wb _ rfl _ _ rfl w.heap.size hown1 rfl 1 1 [signed (v2 : Int)] rfl HC rfl (by have := HL.out; omega) hsz1 ?_)
            intro v' w' hown' hg'
            have hbl' := hbl1.trans (hown1.below_of hg' (Nat.le_refl _) hsz1)
            clear hg'
            have hlj' : (l ++ [signed (v2 : Int)]).length = j + 1 := by rw [List.length_append, HL.out]; rfl
            go_wp2_with fail
            go_roundw
            case rel => exact ⟨j + 1, m + k2, pn + k2, _, true, by omega, by go_num, by go_num, rfl, by have := HP.out; omega, by omega, hlj', hown'.fitI2, HR', hbl'⟩
            case measure => simp [intOf]; omega
        · obtain rfl : j = v := by omega
          have HN := Lib.hid (HU l m (rdRel_end (HR.out.1 rfl)))
          have HP := Lib.hid hpn
          clear hpn hlj
          go_wp2_with fail
          go_ret3
          refine ⟨_, ?_, by rw [HN.out]; exact hown, hbl⟩
          rw [HN.out, HP.out]
          simp
end Go.Proofs.Ytmnddbgblhmlbaa
