/- PackInts: the program's and the reference's return the same plain function. -/
import Derived.Test.YtkcknikaidbeoaaScr
import Derived.Test.YtkcknikaidbeoaaZer
namespace Go.Proofs.Ytkcknikaidbeoaa
open Go.RowKit

set_option maxHeartbeats 1000000 in
theorem pki_impl {v : Value} {l : List Int} (w : World) (h : At w 1 v l.length (l.map (Value.int .i64))) (hm : l.length ≤ 1048576) :
    Calls Try.prog 109 #[v] w fun e w' => e = .returned (.string (packI l)) ∧ Below w.heap.size w w' := by
  obtain ⟨ao, cap, rfl, hc⟩ := h.cell
  have hv0 := encVar_size (l.length : Int)
  have HV0 := Lib.hid (show (encVar (l.length : Int)).size ≤ maxLen by unfold maxLen; omega)
  go_enter Try.func109, Try.ntmps109
  go_wp2_with fail
  refine (enc_impl _ _).mono ?_
  rintro e wa ⟨rfl, ha⟩
  have hsa := ha.size
  go_wp2_with (with_reducible refine bytes_law (o := ⟨some 10, _, _, _, _, _⟩) _ rfl _ rfl w.heap.size (encVar (l.length : Int)) rfl HV0.out hsa ?_)
  intro cap1 wb hown hg
  have hbl : Below w.heap.size w wb := ha.grown hg hsa (fun k h => by cases h)
  clear hg
  replace hown : Own wb w.heap.size 1 _ _ (u8s (encV (l.length : Nat))) := hown.fit
  have hl0 : (encV (l.length : Nat)).length ≤ 6 := encV_len _
  go_wp2_with fail
  go_loopw [3, 13] (fun v i wr => ∃ (k : Nat) (t : List UInt8), k ≤ l.length ∧ i = .int .i64 k ∧ t.length ≤ 6 + 6 * k ∧ Own wr w.heap.size 1 v t.length (u8s t) ∧ Hid (t = encV (l.length : Nat) ++ encsL (l.take k)) ∧ Hid (∀ j (hj : j < l.length), j < k → 0 ≤ signless (l[j]'hj)) ∧ Below w.heap.size w wr) (fun _ i _ => l.length - (intOf i).toNat)
  case atStart => exact ⟨0, _, Nat.zero_le _, rfl, hl0, hown, Lib.hid (by simp [encsL]), Lib.hid fun j _ h => by omega, hbl⟩
  case round =>
    obtain ⟨k, t, hk, rfl, htl, hown, HT, HO, hbl⟩ := hrel
    have hsz := hbl.size
    by_cases hlt : k < l.length
    · obtain ⟨g, off, rfl, hg, hcell⟩ := hc (by omega)
      clear hc
      have c1 : wr.cell? ⟨g, off + k, none⟩ = some (.int .i64 (l[k]'hlt)) := (hbl.cell hg).trans (hcell k hlt)
      clear hcell
      by_cases hneg : signless (l[k]'hlt) < 0
      · have HN := Lib.hid (packI_no (okS_no hneg))
        go_wp2_with fail
        refine (signless_impl _ _).mono ?_
        rintro e w1 ⟨rfl, rfl⟩
        go_wp2_with fail
        go_ret
        exact ⟨by rw [HN.out]; rfl, hbl⟩
      · have HO' : Hid (∀ j (hj : j < l.length), j < k + 1 → 0 ≤ signless (l[j]'hj)) := Lib.hid fun j hj h' => by
          by_cases e : j = k
          · subst e; omega
          · exact HO.out j hj (by omega)
        have HT' : Hid (t ++ (encVar (signless (l[k]'hlt))).data.toList = encV (l.length : Nat) ++ encsL (l.take (k + 1))) := Lib.hid (by
          rw [encsL_succ hlt, ← List.append_assoc, ← HT.out]; rfl)
        have hv := encVar_size (signless (l[k]'hlt))
        go_wp2_with fail
        refine (signless_impl _ _).mono ?_
        rintro e w1 ⟨rfl, rfl⟩
        go_wp2_with fail
        refine (enc_impl _ _).mono ?_
        rintro e wc ⟨rfl, hcw⟩
        have hown1 : Own wc w.heap.size 1 _ t.length (u8s t) := hown.below hcw (fun g hg => (hown.ge g hg).2)
        have hbl1 := hbl.trans (hcw.mono hsz)
        have hsz1 := hbl1.size
        go_wp2_with (with_reducible refine app_str (o := ⟨some 24, _, _, _, _, _⟩) wc rfl _ _ rfl w.heap.size hown1 rfl _ rfl (by omega) hsz1 ?_)
        intro v' wd hown2 hg2 _
        have hbl2 := hbl1.trans (hown1.below_of hg2 (Nat.le_refl _) hsz1)
        clear hg2
        have hlen : (t ++ (encVar (signless (l[k]'hlt))).data.toList).length ≤ 6 + 6 * (k + 1) := by
          rw [List.length_append, bytes_len0]
          omega
        go_wp2_with fail
        go_roundw
        case rel => exact ⟨k + 1, _, by omega, by go_num, hlen, hown2.fit, HT', HO', hbl2⟩
        case measure => simp [intOf]; omega
    · have HP : Hid (packI l = ⟨t.toArray⟩) := Lib.hid (by
        rw [packI_yes (okS_yes fun j hj => HO.out j hj (by omega)), HT.out, show k = l.length by omega, List.take_length])
      go_wp2_with (with_reducible refine str_law (o := ⟨some 27, _, _, _, _, _⟩) _ rfl _ rfl hown.at_ rfl ?_)
      go_ret
      exact ⟨by rw [HP.out]; rfl, hbl⟩
set_option maxHeartbeats 1000000 in
theorem pki_spec {v : Value} {l : List Int} (w : World) (h : At w 1 v l.length (l.map (Value.int .i64))) (hm : l.length ≤ 1048576) :
    Calls Try.prog 107 #[v] w fun e w' => e = .returned (.string (packI l)) ∧ Below w.heap.size w w' := by
  obtain ⟨ao, cap, rfl, hc⟩ := h.cell
  have hv0 := encVar_size (l.length : Int)
  go_enter Try.func107, Try.ntmps107
  go_wp2_with fail
  refine (enc_spec _ _).mono ?_
  rintro e wa ⟨rfl, ha⟩
  go_wp2_with fail
  go_loopw [3, 4] (fun v i wr => ∃ (k : Nat) (t : ByteArray), k ≤ l.length ∧ i = .int .i64 k ∧ t.size ≤ 6 + 6 * k ∧ v = .string t ∧ Hid (t.data.toList = encV (l.length : Nat) ++ encsL (l.take k)) ∧ Hid (∀ j (hj : j < l.length), j < k → 0 ≤ signless (l[j]'hj)) ∧ Below w.heap.size w wr) (fun _ i _ => l.length - (intOf i).toNat)
  case atStart => exact ⟨0, _, Nat.zero_le _, rfl, hv0, rfl, Lib.hid (by simp [encsL, encVar]), Lib.hid fun j _ h => by omega, ha⟩
  case round =>
    obtain ⟨k, t, hk, rfl, htl, rfl, HT, HO, hbl⟩ := hrel
    have hsz := hbl.size
    by_cases hlt : k < l.length
    · obtain ⟨g, off, rfl, hg, hcell⟩ := hc (by omega)
      clear hc
      have c1 : wr.cell? ⟨g, off + k, none⟩ = some (.int .i64 (l[k]'hlt)) := (hbl.cell hg).trans (hcell k hlt)
      clear hcell
      by_cases hneg : signless (l[k]'hlt) < 0
      · have HN := Lib.hid (packI_no (okS_no hneg))
        go_wp2_with fail
        refine (signless_spec _ _).mono ?_
        rintro e w1 ⟨rfl, rfl⟩
        go_wp2_with fail
        go_ret
        exact ⟨by rw [HN.out]; rfl, hbl⟩
      · have HO' : Hid (∀ j (hj : j < l.length), j < k + 1 → 0 ≤ signless (l[j]'hj)) := Lib.hid fun j hj h' => by
          by_cases e : j = k
          · subst e; omega
          · exact HO.out j hj (by omega)
        have HT' : Hid ((t ++ encVar (signless (l[k]'hlt))).data.toList = encV (l.length : Nat) ++ encsL (l.take (k + 1))) := Lib.hid (by
          rw [encsL_succ hlt, ← List.append_assoc, ← HT.out]; simp [encVar])
        have hv := encVar_size (signless (l[k]'hlt))
        go_wp2_with fail
        refine (signless_spec _ _).mono ?_
        rintro e w1 ⟨rfl, rfl⟩
        go_wp2_with fail
        refine (signless_spec _ _).mono ?_
        rintro e w1 ⟨rfl, rfl⟩
        go_wp2_with fail
        refine (enc_spec _ _).mono ?_
        rintro e wc ⟨rfl, hcw⟩
        have hbl1 := hbl.trans (hcw.mono hsz)
        have hlen : (t ++ encVar (signless (l[k]'hlt))).size ≤ 6 + 6 * (k + 1) := by
          rw [ByteArray.size_append]
          omega
        go_wp2_with fail
        go_roundw
        case rel => exact ⟨k + 1, _, by omega, by go_num, hlen, rfl, HT', HO', hbl1⟩
        case measure => simp [intOf]; omega
    · have HP : Hid (packI l = t) := Lib.hid (by
        rw [packI_yes (okS_yes fun j hj => HO.out j hj (by omega))]
        have := HT.out
        rw [show k = l.length by omega, List.take_length] at this
        rw [← this])
      go_wp2_with fail
      go_ret
      exact ⟨by rw [HP.out]; rfl, hbl⟩
end Go.Proofs.Ytkcknikaidbeoaa
