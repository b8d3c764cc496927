/- 'append(s, make([]byte, k)...)' on an own slice of bytes: the builtin is handed the number k. -/
import Derived.Test.YtmnddbgblhmlbaaLaws
import Derived.Lib.AppendZerosOnto
namespace Go.Proofs.Ytmnddbgblhmlbaa
open Go.RowKit

section
variable {P : Program} (w : World)
theorem zeroCells_one (z : Value) (n : Nat) : (Builtin.zeroCells #[z] n) = (List.replicate n z).toArray := by
  apply Array.ext'
  apply List.ext_getElem?
  intro j
  by_cases hj : j < n
  · simp [Builtin.zeroCells, hj, Nat.mod_one]
  · simp [Builtin.zeroCells, hj]
theorem run_append_room_zeros (t tn ty e : TypeId) (i : TypeInfo) (z : Value) (kq kn : IntKind) (ht : P.underlying t = some (.slice e)) (htn : P.underlying tn = some (.int kn)) (hi : P.info? e = some i) (hz : i.zero = some z)
    (hs : i.size = 1) (hby : i.bytes = 1) (hz1 : z.cells = #[z]) (hone : z.oneCell' = true) (b sLen sCap k : Nat) (hk : k ≤ 140737488355328) (hroom : sLen + k ≤ sCap)
    (hc : ∀ j, j < k → (w.cell? ⟨b, 0 + sLen + j, none⟩).isSome = true) (hf : ∀ j, j < k → w.frozen? ⟨b, 0 + sLen + j, none⟩ = false) :
    (Builtin.append_ #[t, tn] ty #[.slice (some ⟨b, 0, none⟩) sLen sCap, .int kq k]).run P w = .ok (.slice (some ⟨b, 0, none⟩) (sLen + k) sCap) (w.setCells b (0 + sLen) (List.replicate k z)) := by
  have hw : IntKind.i64.wrap (k : Int) = k := by rw [IntKind.wrap_i64]; omega
  have h48i : ¬ (281474976710656 < (k : Int)) := by omega
  have hneg : ¬ ((k : Int) < 0) := by omega
  have hst := run_storeCells_cells (P := P) b (0 + sLen) (List.replicate k z) 0 w (by simpa using hc) (by simpa using hf) (fun v hv => by rw [List.eq_of_mem_replicate hv]; exact hone)
  simp only [Nat.add_zero] at hst
  rw [Nat.zero_add] at hst ⊢
  by_cases h0 : k = 0
  · subst h0
    have hw0 : IntKind.i64.wrap 0 = 0 := by rw [IntKind.wrap_i64]; omega
    have hr0 : sLen ≤ sCap := by omega
    simp only [List.replicate_zero] at hst ⊢
    simp [Builtin.append_, run_underlying ht, run_underlying htn, sizeOf, typeInfo, hi, asInt, asIntOf, hs, hby, Addr.add_lit, hw0, hr0, hst]
  · simp [Builtin.append_, run_underlying ht, run_underlying htn, sizeOf, typeInfo, zeroValue, hi, hz, asInt, asIntOf, hw, hneg, h48i, hs, hby, hz1, h0, hroom, Addr.add_lit, zeroCells_one, hst]
theorem run_append_zeros_own (base : Nat) (t tx ty e : TypeId) (i : TypeInfo) (z : Value) (kq kn : IntKind) (ht : P.underlying t = some (.slice e)) (htn : P.underlying tx = some (.int kn)) (hi : P.info? e = some i) (hz : i.zero = some z)
    (hsz1 : i.size = 1) (hby : i.bytes = 1) (hz1 : z.cells = #[z]) (hone : z.oneCell' = true)
    (v : Value) (n : Nat) (xs : List Value) (hown : Own w base 1 v n xs) (m : Nat)
    (h63 : n + m ≤ maxLen) (hbytes : n + m ≤ 140737488355328) (hbase : base ≤ w.heap.size) :
    ∃ v' w', (Builtin.append_ #[t, tx] ty #[v, .int kq m]).run P w = .ok v' w' ∧ Own w' base 1 v' (n + m) (xs ++ List.replicate m z) ∧ w.grownBy w' v.ownBlock ∧ (v'.ownBlock = v.ownBlock ∨ v'.ownBlock = some w.heap.size) := by
  have hzs : z.cells.size = i.size := by rw [hz1, hsz1]; rfl
  obtain ⟨news, hnews⟩ : ∃ news, news = List.replicate m z := ⟨_, rfl⟩
  rw [← hnews]
  have hnl : news.length = m * i.size := by rw [hnews, hsz1]; simp
  rw [← hsz1] at hown ⊢
  have hxl := hown.len
  have hlen : (xs ++ news).length = (n + m) * i.size := by rw [List.length_append, hxl, hnl, Nat.add_mul]
  have grow : ∀ (bs : Option Addr) (sc : Nat), v = .slice bs n sc → n ≤ sc → sc < n + m → (Builtin.firstCells i.size n (.slice bs n sc)).run P w.drew = .ok xs.toArray w.drew →
      ∃ v' w', (Builtin.append_ #[t, tx] ty #[v, .int kq m]).run P w = .ok v' w' ∧ Own w' base i.size v' (n + m) (xs ++ news) ∧ w.grownBy w' v.ownBlock ∧ (v'.ownBlock = v.ownBlock ∨ v'.ownBlock = some w.heap.size) := by
    rintro bs sc rfl hnsc hg hold
    have hrun := Lib.run_append_grow_zeros (P := P) w t tx ty e i z kq kn ht htn hi hz bs n sc xs hold m (by omega) (by omega) hg (by simp only [maxLen] at h63; omega) (by rw [hby]; omega) (growslice_fits hg (by rw [hby]; omega))
    rw [show (xs.toArray ++ Builtin.zeroCells z.cells m) = (xs ++ news).toArray by rw [hz1, zeroCells_one, hnews]; simp] at hrun
    have hge := grownCap_ge w (n + m) sc e
    have hcm := grownCap_le_maxLen w (n + m) sc e h63
    have hsz : ((xs ++ news).toArray ++ Builtin.zeroCells z.cells (grownCap w (n + m) sc e - (n + m))).size = grownCap w (n + m) sc e * i.size := by
      rw [Array.size_append, List.size_toArray, hlen, size_zeroCells, hzs, ← Nat.add_mul]
      congr 1
      omega
    refine ⟨_, _, hrun, ⟨hlen, .inr ⟨w.heap.size, _, rfl, hbase, by simp, hge, hcm, fun j hj => ?_, fun j hj => ⟨?_, ?_⟩⟩⟩, ⟨rfl, rfl, rfl, by simp, fun k hk _ => Below.heap_alloc w.drew _ k hk⟩, .inr rfl⟩
    · have e1 : (w.drew.alloc (.cells ((xs ++ news).toArray ++ Builtin.zeroCells z.cells (grownCap w (n + m) sc e - (n + m))) e)).cell? ⟨w.heap.size, j, none⟩ = _ := World.cell?_alloc_new w.drew _ _ j
      rw [e1, Array.getElem?_append_left (by simp only [List.size_toArray]; rw [hlen]; exact hj), List.getElem?_toArray]
    · have e1 : (w.drew.alloc (.cells ((xs ++ news).toArray ++ Builtin.zeroCells z.cells (grownCap w (n + m) sc e - (n + m))) e)).cell? ⟨w.heap.size, j, none⟩ = _ := World.cell?_alloc_new w.drew _ _ j
      rw [e1, Array.getElem?_eq_getElem (by rw [hsz]; exact hj)]
      rfl
    · exact World.frozen?_alloc_new w.drew _ _ j
  rcases hown.val with ⟨rfl, rfl⟩ | ⟨g, cap, rfl, hbg, hgs, hnc, hcm, hc, ht'⟩
  · obtain rfl : xs = [] := List.eq_nil_of_length_eq_zero (by simpa using hxl)
    by_cases hm : m = 0
    · subst hm
      have hn0 : news = [] := List.eq_nil_of_length_eq_zero (by simpa using hnl)
      rw [hn0]
      refine ⟨.slice none 0 0, w, ?_, by simpa using Own.nil w base i.size, World.grownBy.refl _ _, .inl rfl⟩
      have hw0 : IntKind.i64.wrap 0 = 0 := by rw [IntKind.wrap_i64]; omega
      simp [Builtin.append_, run_underlying ht, run_underlying htn, sizeOf, typeInfo, hi, asInt, asIntOf, hw0]
    · exact grow none 0 rfl (by omega) (by omega) (run_firstCells_none w.drew i.size 0 0 0)
  · by_cases hfit : n + m ≤ cap
    · have hrc : (n + m) * i.size ≤ cap * i.size := Nat.mul_le_mul_right _ hfit
      rw [Nat.add_mul] at hrc
      have hsome : ∀ j, j < news.length → (w.cell? ⟨g, 0 + n * i.size + j, none⟩).isSome = true := fun j hj => by rw [Nat.zero_add]; exact (ht' _ (by omega)).1
      have hnl' : news.length = m := by rw [hnews]; simp
      have hrun := run_append_room_zeros (P := P) w t tx ty e i z kq kn ht htn hi hz hsz1 hby hz1 hone g n cap m (by omega) hfit (fun j hj => by have := hsome j (by omega); rw [hsz1, Nat.mul_one] at this; exact this) (fun j hj => by rw [Nat.zero_add]; exact (ht' _ (by rw [hsz1]; omega)).2)
      rw [← hnews, show 0 + n = 0 + n * i.size by rw [hsz1, Nat.mul_one]] at hrun
      have hsz : (w.setCells g (0 + n * i.size) news).heap.size = w.heap.size := by
        exact size_setCells_ g news _ w
      refine ⟨_, _, hrun, ⟨hlen, .inr ⟨g, cap, rfl, hbg, by rw [hsz]; exact hgs, hfit, hcm, fun j hj => ?_, fun j hj => ⟨?_, (World.frozen?_setCells g _ _ _ _).trans (ht' j hj).2⟩⟩⟩, ?_, .inl rfl⟩
      · rw [Nat.add_mul] at hj
        by_cases hjo : j < n * i.size
        · rw [World.cell?_setCells_out g _ _ _ _ (fun _ _ => Or.inl (by show j < 0 + n * i.size; omega)), List.getElem?_append_left (by omega)]
          exact hc j hjo
        · have htt : j - n * i.size < news.length := by omega
          have := World.cell?_setCells_in g news (0 + n * i.size) w hsome (j - n * i.size) htt
          rw [show 0 + n * i.size + (j - n * i.size) = j by omega] at this
          rw [this, List.getElem?_append_right (by omega), hxl, List.getElem?_eq_getElem htt]
      · by_cases hin : n * i.size ≤ j ∧ j < n * i.size + news.length
        · have := World.cell?_setCells_in g news (0 + n * i.size) w hsome (j - n * i.size) (by omega)
          rw [show 0 + n * i.size + (j - n * i.size) = j by omega] at this
          rw [this]; rfl
        · rw [World.cell?_setCells_out g _ _ _ _ (fun _ _ => by show j < 0 + n * i.size ∨ 0 + n * i.size + news.length ≤ j; omega)]
          exact (ht' j hj).1
      · have hkb := World.keptBut_setCells g (may := fun p => p.block = g) news (0 + n * i.size) w (fun _ _ => rfl)
        exact ⟨hkb.1, tape_setCells_ g news _ w, hkb.2.1, by rw [hsz]; exact Nat.le_refl _, fun k hk hne => hkb.block hk (fun p hp e => hne (by simp [Value.ownBlock]; exact e.symm.trans hp))⟩
    · refine grow (some ⟨g, 0, none⟩) cap rfl hnc (by omega) ?_
      refine run_firstCells_some w.drew i.size n ⟨g, 0, none⟩ n cap xs hxl (fun j u hu => ?_)
      rw [Addr.add_lit, Nat.zero_add]
      have hj : j < n * i.size := by
        have := (List.getElem?_eq_some_iff.1 hu).1
        omega
      exact (hc j hj).trans hu
end

section
variable {ops : Array Oper} {rest : List Oper} {o : Oper} {a : Act} {Q : Exit → Act → World → Prop}
theorem zeros_u8 (n : Nat) : List.replicate n (Value.int .u8 0) = u8s (List.replicate n (0 : UInt8)) := by
  unfold u8s
  rw [List.map_replicate]
  rfl
/-- 'append(out, make([]byte, k)...)' -/
theorem app_zeros (w : World) (hgd : o.guard = none) (s x : Operand) (ho : o.op = .call { callee := .builtin .append, args := #[s, x], argTypes := #[22, 3] }) (base : Nat)
    {v : Value} {n : Nat} {l : List UInt8} (hown : Own w base 1 v n (u8s l)) (hv : a.eval s = v) (k : Nat) (hx : a.eval x = .int .i64 (k : Int))
    (hbytes : n + k ≤ 140737488355328) (hbase : base ≤ w.heap.size)
    (hK : ∀ v' w', Own w' base 1 v' (n + k) (u8s (l ++ List.replicate k (0 : UInt8))) → w.grownBy w' v.ownBlock → wpList Try.prog ops Q rest (a.put o.dst v') w') :
    wpList Try.prog ops Q (o :: rest) a w := by
  obtain ⟨i0, hi, hz0, hz1, hz2⟩ := info_parts info_u8
  obtain ⟨v', w', hrun, h1, h2, _⟩ := run_append_zeros_own (P := Try.prog) w base 22 3 o.type 5 i0 (.int .u8 0) .i64 .i64 Try.underlying22 Try.underlying3 hi hz0 hz1 hz2 rfl rfl v n (u8s l) hown k (by unfold maxLen; omega) hbytes hbase
  rw [zeros_u8, u8s_append] at h1
  exact Lib.wpList_append_run w hgd s x 22 3 ho v (.int .i64 k) hv hx v' w' hrun (hK v' w' h1 h2)
end
end Go.Proofs.Ytmnddbgblhmlbaa
