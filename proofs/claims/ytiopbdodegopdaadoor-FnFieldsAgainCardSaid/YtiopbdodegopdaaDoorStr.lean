/- Slices of strings: appended to, compared (eqStringS), marked (markStringS) and read again (heldStringS). -/
import Derived.Test.YtiopbdodegopdaaDoorInts
import Derived.Test.YtiopbdodegopdaaDoorScr
import Derived.Deep.RegionWith
namespace Go.Proofs.YtiopbdodegopdaaDoor
open Go.RowKit

section
variable {ops : Array Oper} {rest : List Oper} {o : Oper} {a : Act} {Q : Exit → Act → World → Prop}
theorem info_str : (Tryd.prog.info? 9).map (fun i => (i.zero, i.size, i.bytes)) = some (some (.string ⟨#[]⟩), 1, 16) := by kernel_rfl
theorem strs_one (l : List ByteArray) : ∀ u ∈ l.map Value.string, u.oneCell' = true := by
  intro u hu
  obtain ⟨_, _, rfl⟩ := List.mem_map.1 hu
  rfl
/-- 'append(out, x)' on a []string: the new element lies in a block that was just laid. -/
theorem app_strs (w : World) (C : Array Value) (hgd : o.guard = none) (s x : Operand) (ho : o.op = .call { callee := .builtin .append, args := #[s, x], argTypes := #[25, 25] }) (base : Nat)
    {v : Value} {n : Nat} {l : List ByteArray} (hown : Own w base 1 v n (l.map Value.string)) (hv : a.eval s = v) (m c : Nat) (news : List ByteArray) (hx : a.eval x = .slice (some ⟨w.heap.size, 0, none⟩) m c) (hC : Hid (C.toList = news.map Value.string)) (hm : m = news.length)
    (hbytes : (n + m) * 16 ≤ 140737488355328) (hbase : base ≤ w.heap.size)
    (hK : ∀ v' w', Own w' base 1 v' (n + m) ((l ++ news).map Value.string) → w.grownBy w' v.ownBlock → wpList Tryd.prog ops Q rest (a.put o.dst v') w') :
    wpList Tryd.prog ops Q (o :: rest) a (w.alloc (.cells C 9 (0, 0))) := by
  obtain ⟨i0, hi, hz0, hz1, hz2⟩ := info_parts info_str
  refine wpList_append_o (P := Tryd.prog) (w.alloc (.cells C 9 (0, 0))) hgd s x 25 25 ho base 9 i0 (.string ⟨#[]⟩) 1 16 Tryd.underlying25 hi hz0 hz1 hz2 rfl hv (hown.alloc _) _ m (news.map Value.string) hx
    (Src.ofSlice (P := Tryd.prog) _ (size := 1) Tryd.underlying25 ⟨w.heap.size, 0, none⟩ m c (news.map Value.string) (by rw [List.length_map, hm, Nat.mul_one]) (fun j u hu => ?_) (strs_one news))
    (by unfold maxLen; omega) (by omega) (by simp; omega) (fun v' w' h1 h2 _ => ?_)
  · rw [Addr.add_lit, Nat.zero_add, World.cell?_alloc_new, ← hu, ← hC.out, Array.getElem?_toList]
  · rw [← List.map_append] at h1
    exact hK v' w' h1 (grownBy_trans (World.grownBy_alloc w _ _) h2)
end
theorem Own.fitS {w : World} {base n : Nat} {v : Value} {l : List ByteArray} (h : Own w base 1 v n (l.map Value.string)) : Own w base 1 v l.length (l.map Value.string) := by
  have e := h.len
  rw [List.length_map, Nat.mul_one] at e
  rw [e]; exact h
theorem Own.fitS2 {w : World} {base n : Nat} {v : Value} {l : List ByteArray} {x : ByteArray} (h : Own w base 1 v n (l.map Value.string ++ [Value.string x])) : Own w base 1 v (l ++ [x]).length ((l ++ [x]).map Value.string) := by
  have h' : Own w base 1 v n ((l ++ [x]).map Value.string) := by simpa using h
  exact h'.fitS
theorem At.cellS {w : World} {v : Value} {l : List ByteArray} (h : At w 1 v l.length (l.map Value.string)) : ∃ ao cap, v = .slice ao l.length cap ∧ (0 < l.length → ∃ g off, ao = some ⟨g, off, none⟩ ∧ g < w.heap.size ∧ ∀ j (hj : j < l.length), w.cell? ⟨g, off + j, none⟩ = some (.string (l[j]'hj))) := by
  obtain ⟨_, ao, cap, rfl, hn, _, hc⟩ := h
  refine ⟨ao, cap, rfl, fun h0 => ?_⟩
  obtain ⟨g, off, rfl, hg, hc⟩ := hc (by omega)
  exact ⟨g, off, rfl, hg, fun j hj => by rw [hc j (by omega), List.getElem?_map, List.getElem?_eq_getElem hj]; rfl⟩
set_option maxHeartbeats 400000 in
theorem eqstrs_ret {va vb : Value} {l : List ByteArray} (w : World) (ha : At w 1 va l.length (l.map Value.string)) (hb : At w 1 vb l.length (l.map Value.string)) (hm : l.length ≤ 1099511627776) :
    Calls Tryd.prog 33 #[va, vb] w fun e w' => e = .returned (.bool true) ∧ ∃ k, w' = w.drewN k := by
  obtain ⟨ao, cap, rfl, hca⟩ := ha.cellS
  obtain ⟨bo, cap2, rfl, hcb⟩ := hb.cellS
  go_enter Tryd.func33, Tryd.ntmps33
  go_wp2
  go_loopw [5] (fun i wr => ∃ k : Nat, k ≤ l.length ∧ i = .int .i64 k ∧ ∃ d, wr = w.drewN d) (fun i _ => l.length - (intOf i).toNat)
  case atStart => exact ⟨0, Nat.zero_le _, rfl, 0, rfl⟩
  case round =>
    obtain ⟨k, hk, rfl, d, rfl⟩ := hrel
    by_cases hlt : k < l.length
    · obtain ⟨g, off, rfl, hg, hcell⟩ := hca (by omega)
      obtain ⟨g2, off2, rfl, hg2, hcell2⟩ := hcb (by omega)
      clear hca hcb
      have c1 := hcell k hlt
      have c2 := hcell2 k hlt
      clear hcell hcell2
      go_wp2
      go_region
      go_wp2
      go_roundw
      case rel => exact ⟨k + 1, by omega, by go_num, d + 1, rfl⟩
      case measure => simp [intOf]; omega
    · go_wp2
      go_ret
      exact ⟨rfl, d, rfl⟩
/-- the marks of strings: markText -/
def mk10 : Nat → Int → ByteArray → ByteArray
  | 0, _, t => t
  | f + 1, m, t => if m ≤ 0 then t else mk10 f (m / 10) (⟨[b8 (48 + m % 10)].toArray⟩ ++ t)
def markV (k : Int) : ByteArray := ⟨#[109]⟩ ++ mk10 8 k ⟨#[]⟩
theorem mk10_0 (f : Nat) (t : ByteArray) : mk10 f 0 t = t := by cases f <;> simp [mk10]
theorem mk10_step {f : Nat} {m : Int} {t : ByteArray} (h : 0 < m) : mk10 (f + 1) m t = mk10 f (m / 10) (⟨[b8 (48 + m % 10)].toArray⟩ ++ t) := by
  simp only [mk10]
  rw [if_neg (by omega)]
theorem lit1' (w : World) (x : Int) (hx : 0 ≤ x ∧ x < 256) :
    At (w.alloc (.cells #[.int .u8 x] 5)) 1 (.slice (some ⟨w.heap.size, 0, none⟩) 1 1) 1 (u8s [b8 x]) := by
  refine (Own.lit (w := w) (C := #[.int .u8 x]) (base := 0) (sz := 1) (n := 1) 5 ?_ rfl (Nat.zero_le _) (by unfold maxLen; omega)).at_
  simp only [u8s, List.map_cons, List.map_nil]
  rw [b8_nat hx.1 hx.2]
set_option maxHeartbeats 1000000 in
theorem marktext_ret (k : Int) (w : World) (h0 : 1 ≤ k) (h1 : k ≤ 9999999) :
    Calls Tryd.prog 45 #[.int .i64 k] w fun e w' => e = .returned (.string (markV k)) ∧ Below w.heap.size w w' := by
  go_enter Tryd.func45, Tryd.ntmps45
  go_wp2_with fail
  go_loopw [0, 3] (fun x v wr => ∃ (f : Nat) (m : Int) (t : ByteArray), x = .int .i64 m ∧ v = .string t ∧ 0 ≤ m ∧ m ≤ 9999999 ∧ Hid (m < 10 ^ f) ∧ Hid (mk10 8 k ⟨#[]⟩ = mk10 f m t) ∧ t.size + f = 8 ∧ Below w.heap.size w wr) (fun x _ _ => (intOf x).toNat)
  case atStart => exact ⟨8, k, ⟨#[]⟩, rfl, rfl, by omega, h1, Lib.hid (by omega), Lib.hid rfl, rfl, Below.refl _ _⟩
  case round =>
    obtain ⟨f, m, t, rfl, rfl, hm0, hm1, HF, HE, hts, hbl⟩ := hrel
    have hsz := hbl.size
    by_cases hm : 0 < m
    · obtain ⟨f', rfl⟩ : ∃ f', f = f' + 1 := by
        cases f with
        | zero => have := HF.out; simp at this; omega
        | succ f => exact ⟨f, rfl⟩
      have HF' : Hid (m / 10 < 10 ^ f') := Lib.hid (by
        have := HF.out
        rw [Int.pow_succ] at this
        exact Int.ediv_lt_of_lt_mul (by omega) this)
      have HE' := Lib.hid (HE.out.trans (mk10_step hm))
      have HA := lit1' wr (48 + m % 10) (by omega)
      have hlen : ((⟨[b8 (48 + m % 10)].toArray⟩ : ByteArray) ++ t).size + f' = 8 := by
        rw [ByteArray.size_append]
        show 1 + t.size + f' = 8
        omega
      go_wp2_with (with_reducible refine str_law (o := ⟨some 13, _, _, _, _, _⟩) _ rfl _ rfl HA rfl ?_)
      go_wp2_with fail
      first
        | (go_roundw
           case rel => exact ⟨f', m / 10, _, rfl, rfl, by omega, by omega, HF', HE', hlen, hbl.alloc hsz _⟩
           case measure => simp [intOf]; omega)
        | exact ⟨⟨f', m / 10, _, rfl, rfl, by omega, by omega, HF', HE', hlen, hbl.alloc hsz _⟩, by simp [intOf]; omega⟩
    · obtain rfl : m = 0 := by omega
      have HV : Hid (markV k = ⟨#[109]⟩ ++ t) := Lib.hid (by unfold markV; rw [HE.out, mk10_0])
      have hs1 : (⟨#[109]⟩ : ByteArray).size + t.size ≤ 9223372036854775807 := by show 1 + t.size ≤ _; omega
      go_wp2_with fail
      go_ret
      exact ⟨by rw [HV.out]; rfl, hbl⟩
def marksS (k0 : Int) (n : Nat) : List ByteArray := (List.range n).map fun (j : Nat) => markV (k0 + (j : Int))
theorem marksS_len (k0 : Int) (n : Nat) : (marksS k0 n).length = n := by simp [marksS]
theorem marksS_at (k0 : Int) {n j : Nat} (h : j < (marksS k0 n).length) : (marksS k0 n)[j]'h = markV (k0 + j) := by simp [marksS]
def markSTo (k0 : Int) (l : List ByteArray) (k : Nat) : List ByteArray := marksS k0 k ++ l.drop k
theorem markSTo_at {k0 : Int} {l : List ByteArray} {k : Nat} (h : k < l.length) : (markSTo k0 l k)[k]? = some (l[k]'h) := by
  unfold markSTo
  rw [List.getElem?_append_right (by rw [marksS_len]; omega), marksS_len, List.getElem?_drop, show k + (k - k) = k by omega, List.getElem?_eq_getElem h]
theorem markSTo_succ {k0 : Int} {l : List ByteArray} {k : Nat} (h : k < l.length) : markSTo k0 l (k + 1) = (markSTo k0 l k).set k (markV (k0 + k)) := by
  unfold markSTo
  rw [List.set_append_right _ _ (by rw [marksS_len]; omega), marksS_len, Nat.sub_self, List.drop_eq_getElem_cons h, List.set_cons_zero]
  simp [marksS, List.range_succ]
theorem markSTo_end (k0 : Int) (l : List ByteArray) : markSTo k0 l l.length = marksS k0 l.length := by simp [markSTo]
set_option maxHeartbeats 800000 in
theorem markstrs_ret {v : Value} {l : List ByteArray} {B : Nat} (w : World) (h : Own w B 1 v l.length (l.map Value.string)) (hm : l.length ≤ 1000000) :
    Calls Tryd.prog 34 #[v, .int .i64 1] w fun e w' => e = .returned (.int .i64 (1 + l.length)) ∧ Own w' B 1 v (marksS 1 l.length).length ((marksS 1 l.length).map Value.string) ∧ w.grownBy w' v.ownBlock := by
  rcases h.val with ⟨rfl, h0l⟩ | ⟨g, cap, rfl, hbg, hg, hn, hcm, hcl, hfr⟩
  · obtain rfl : l = [] := List.eq_nil_of_length_eq_zero h0l
    go_enter Tryd.func34, Tryd.ntmps34
    go_wp2_with fail
    go_loop [1, 5] (fun q i => q = .int .i64 1 ∧ i = .int .i64 0) (fun _ i => 0)
    case atStart => exact ⟨rfl, rfl⟩
    case round =>
      obtain ⟨rfl, rfl⟩ := hrel
      go_wp2_with fail
      go_ret
      exact ⟨ret_int (by simp), h, grownBy_self _ _⟩
  · clear hcl hfr
    go_enter Tryd.func34, Tryd.ntmps34
    go_wp2_with fail
    go_loopw [1, 5] (fun q i wr => ∃ k : Nat, k ≤ l.length ∧ q = .int .i64 (1 + k) ∧ i = .int .i64 k ∧ Own wr B 1 (.slice (some ⟨g, 0, none⟩) l.length cap) l.length ((markSTo 1 l k).map Value.string) ∧ w.grownBy wr (some g)) (fun _ i _ => l.length - (intOf i).toNat)
    case atStart => exact ⟨0, Nat.zero_le _, by simp, rfl, by simpa [markSTo, marksS] using h, grownBy_self _ _⟩
    case round =>
      obtain ⟨k, hk, rfl, rfl, hown, hgr⟩ := hrel
      by_cases hlt : k < l.length
      · have HS := Lib.hid (markSTo_succ (k0 := 1) hlt)
        go_wp2_with fail
        refine (marktext_ret _ _ (by omega) (by omega)).mono ?_
        rintro e wa ⟨rfl, ha⟩
        have hown1 : Own wa B 1 (.slice (some ⟨g, 0, none⟩) l.length cap) l.length ((markSTo 1 l k).map Value.string) := hown.below ha (fun i hi => (hown.ge i hi).2)
        have c2 : wa.cell? ⟨g, k, none⟩ = some (.string (l[k]'hlt)) := by
          rw [hown1.cell (by omega), List.getElem?_map, markSTo_at hlt]
          rfl
        have hf := hown1.free k (by omega)
        have hga : wr.grownBy wa (some g) := ⟨ha.os, ha.tape, ha.output, ha.size, fun i hi _ => ha.block i hi⟩
        go_wp2_with fail
        go_roundw
        case rel =>
          have hst := hown1.stored k (.string (markV (1 + k))) (by omega)
          refine ⟨k + 1, by omega, by go_num, by go_num, ?_, grownBy_trans (grownBy_trans hgr hga) hst.2⟩
          rw [HS.out, List.map_set]
          exact hst.1
        case measure => simp [intOf]; omega
      · obtain rfl : k = l.length := by omega
        go_wp2_with fail
        go_ret
        rw [markSTo_end] at hown
        exact ⟨rfl, by rw [marksS_len]; exact hown, hgr⟩
set_option maxHeartbeats 2000000 in
theorem heldstrs_ret {v : Value} {n : Nat} (w : World) (h : At w 1 v (marksS 1 n).length ((marksS 1 n).map Value.string)) (hm : n ≤ 1000000) :
    Calls Tryd.prog 35 #[v, .int .i64 1] w fun e w' => e = .returned (.int .i64 (1 + n)) ∧ Below w.heap.size w w' := by
  obtain ⟨ao, cap, rfl, hc⟩ := h.cellS
  have hml := marksS_len 1 n
  rw [hml]
  go_enter Tryd.func35, Tryd.ntmps35
  go_wp2_with fail
  go_loopw [1, 5] (fun q i wr => ∃ k : Nat, k ≤ n ∧ q = .int .i64 (1 + k) ∧ i = .int .i64 k ∧ Below w.heap.size w wr) (fun _ i _ => n - (intOf i).toNat)
  case atStart => exact ⟨0, Nat.zero_le _, by simp, rfl, Below.refl _ _⟩
  case round =>
    obtain ⟨k, hk, rfl, rfl, hbl⟩ := hrel
    by_cases hlt : k < n
    · obtain ⟨g, off, rfl, hg, hcell⟩ := hc (by rw [hml]; omega)
      clear hc
      have c0 : w.cell? ⟨g, off + k, none⟩ = some (.string (markV (1 + k))) := (hcell k (by rw [hml]; exact hlt)).trans (by rw [marksS_at])
      have c1 : wr.cell? ⟨g, off + k, none⟩ = some (.string (markV (1 + k))) := (hbl.cell hg).trans c0
      clear hcell hml
      have hblD := hbl.drew
      go_wp2_with fail
      go_region_with ((go_at_call 45; refine (marktext_ret _ _ (by omega) (by omega)).mono ?_; rintro e wa ⟨rfl, ha⟩; have hbla := hblD.trans (ha.mono hblD.size); have c2 := (hbla.cell hg).trans c0))
      all_goals
        go_wp2_with fail
        (try go_simp)
        go_roundw
        case rel => exact ⟨k + 1, by omega, by omega, by omega⟩
        case measure => simp [intOf]; omega
    · obtain rfl : k = n := by omega
      go_wp2_with fail
      go_ret
      exact ⟨rfl, hbl⟩
end Go.Proofs.YtiopbdodegopdaaDoor
