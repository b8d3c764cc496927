/- Slices that a call itself made, told by their cells: what is owned, how it is carried along, appended to, converted. Plain laws over any program. -/
import Derived.WalkKit
import Derived.WalkSpells
import Derived.WalkLawsBesides
import Derived.Lib.Hide
import Derived.Deep.AppendSrc
import Derived.Laws.IdiomStrings
namespace Go.Proofs.YtiopbdodegopdaaDoor
open Go.RowKit

/-- The slice value v, of n elements of sz cells each, owns the cells cs in a block from 'base' on (or is nil). -/
structure Own (w : World) (base sz : Nat) (v : Value) (n : Nat) (cs : List Value) : Prop where
  len : cs.length = n * sz
  val : (v = .slice none 0 0 ∧ n = 0) ∨ ∃ g cap, v = .slice (some ⟨g, 0, none⟩) n cap ∧ base ≤ g ∧ g < w.heap.size ∧ n ≤ cap ∧ cap ≤ maxLen ∧
    (∀ j, j < n * sz → w.cell? ⟨g, j, none⟩ = cs[j]?) ∧ (∀ j, j < cap * sz → (w.cell? ⟨g, j, none⟩).isSome = true ∧ w.frozen? ⟨g, j, none⟩ = false)

/-- The slice value v, of n elements of sz cells each, reads the cells cs. -/
structure At (w : World) (sz : Nat) (v : Value) (n : Nat) (cs : List Value) : Prop where
  len : cs.length = n * sz
  val : ∃ ao cap, v = .slice ao n cap ∧ n ≤ cap ∧ cap ≤ maxLen ∧ (0 < cap → ∃ g off, ao = some ⟨g, off, none⟩ ∧ g < w.heap.size ∧ ∀ j, j < n * sz → w.cell? ⟨g, off + j, none⟩ = cs[j]?)

theorem Own.nil (w : World) (base sz : Nat) : Own w base sz (.slice none 0 0) 0 [] := ⟨by simp, .inl ⟨rfl, rfl⟩⟩

/-- a slice literal: a block just laid -/
theorem Own.lit {w : World} {base sz n : Nat} {C : Array Value} {cs : List Value} (e : TypeId) (hC : C.toList = cs) (hl : cs.length = n * sz) (hb : base ≤ w.heap.size) (hm : n ≤ maxLen) :
    Own (w.alloc (.cells C e (0, 0))) base sz (.slice (some ⟨w.heap.size, 0, none⟩) n n) n cs := by
  refine ⟨hl, .inr ⟨_, _, rfl, hb, by simp, Nat.le_refl _, hm, fun j hj => ?_, fun j hj => ⟨?_, World.frozen?_alloc_new w _ _ j⟩⟩⟩
  · rw [World.cell?_alloc_new, ← hC, Array.getElem?_toList]
  · rw [World.cell?_alloc_new, ← Array.getElem?_toList, hC, List.getElem?_eq_getElem (by omega)]; rfl
theorem Own.of_row {w : World} {base sz : Nat} {e : TypeId} {v : Value} {n : Nat} {cs : List Value} (h : w.ownsRow base e sz v n cs) : Own w base sz v n cs := by
  refine ⟨h.1, ?_⟩
  rcases h.2 with hn | ⟨g, cap, cur, rfl, hb, hg, hn, hm, hs, ht⟩
  · exact .inl hn
  · refine .inr ⟨g, cap, rfl, hb, (Array.getElem?_eq_some_iff.1 hg).1, hn, hm, fun j hj => ?_, fun j hj => ⟨?_, frozen_of_row w g j cur e hg⟩⟩
    · rw [cell_of_row w g j cur e (0, 0) hg, ← ht, List.getElem?_take, if_pos hj]; simp
    · rw [cell_of_row w g j cur e (0, 0) hg, Array.getElem?_eq_getElem (by omega)]; rfl
theorem Own.at_ {w : World} {base sz : Nat} {v : Value} {n : Nat} {cs : List Value} (h : Own w base sz v n cs) : At w sz v n cs := by
  refine ⟨h.len, ?_⟩
  rcases h.val with ⟨rfl, rfl⟩ | ⟨g, cap, rfl, hb, hg, hn, hm, hc, _⟩
  · exact ⟨none, 0, rfl, Nat.le_refl _, Nat.zero_le _, fun h => absurd h (Nat.lt_irrefl _)⟩
  · exact ⟨_, cap, rfl, hn, hm, fun _ => ⟨g, 0, rfl, hg, fun j hj => by rw [Nat.zero_add]; exact hc j hj⟩⟩

/-- What is owned stays owned where its own block has not turned. -/
theorem Own.carry {w w' : World} {base sz : Nat} {v : Value} {n : Nat} {cs : List Value} (h : Own w base sz v n cs) (hs : w.heap.size ≤ w'.heap.size)
    (hb : ∀ g, v.ownBlock = some g → g < w.heap.size → w'.heap[g]? = w.heap[g]?) : Own w' base sz v n cs := by
  refine ⟨h.len, ?_⟩
  rcases h.val with hn | ⟨g, cap, rfl, hbg, hg, hn, hm, hc, ht⟩
  · exact .inl hn
  · have e := hb g (by simp [Value.ownBlock]) hg
    refine .inr ⟨g, cap, rfl, hbg, by omega, hn, hm, fun j hj => ?_, fun j hj => ⟨?_, ?_⟩⟩
    · rw [World.cell?_of_block (w := w) (w' := w') (a := ⟨g, j, none⟩) e]; exact hc j hj
    · rw [World.cell?_of_block (w := w) (w' := w') (a := ⟨g, j, none⟩) e]; exact (ht j hj).1
    · rw [World.frozen?_of_block (w := w) (w' := w') (a := ⟨g, j, none⟩) e]; exact (ht j hj).2
theorem Own.alloc {w : World} {base sz : Nat} {v : Value} {n : Nat} {cs : List Value} (h : Own w base sz v n cs) (o : Obj) : Own (w.alloc o) base sz v n cs :=
  h.carry (by simp) (fun g _ hg => Below.heap_alloc w o g hg)
theorem Own.drew {w : World} {base sz : Nat} {v : Value} {n : Nat} {cs : List Value} (h : Own w base sz v n cs) : Own w.drew base sz v n cs :=
  h.carry (Nat.le_refl _) (fun _ _ _ => rfl)
theorem Own.drewN {w : World} {base sz : Nat} {v : Value} {n : Nat} {cs : List Value} (h : Own w base sz v n cs) (k : Nat) : Own (w.drewN k) base sz v n cs :=
  h.carry (Nat.le_refl _) (fun _ _ _ => rfl)
theorem Own.kept {w w' : World} {base sz : Nat} {v : Value} {n : Nat} {cs : List Value} {row : Option Nat} (h : Own w base sz v n cs) (hg : w.grownBy w' row) (hne : v.ownBlock = none ∨ v.ownBlock ≠ row) : Own w' base sz v n cs :=
  h.carry hg.size (fun g hv hgl => hg.block g hgl (fun e => hne.elim (fun h0 => by rw [hv] at h0; cases h0) (fun h0 => h0 (hv.trans e))))
theorem Own.below {w w' : World} {base sz B : Nat} {v : Value} {n : Nat} {cs : List Value} (h : Own w base sz v n cs) (hb : Below B w w') (hB : ∀ g, v.ownBlock = some g → g < B) : Own w' base sz v n cs :=
  h.carry hb.size (fun g hv _ => hb.block g (hB g hv))
theorem Own.mono {w : World} {base base' sz : Nat} {v : Value} {n : Nat} {cs : List Value} (h : Own w base sz v n cs) (hb : base' ≤ base) : Own w base' sz v n cs :=
  ⟨h.len, h.val.imp id fun ⟨g, cap, a, b, c⟩ => ⟨g, cap, a, by omega, c⟩⟩
theorem Own.ge {w : World} {base sz : Nat} {v : Value} {n : Nat} {cs : List Value} (h : Own w base sz v n cs) : ∀ k, v.ownBlock = some k → base ≤ k ∧ k < w.heap.size := by
  intro k hk
  rcases h.val with ⟨rfl, _⟩ | ⟨g, cap, rfl, hb, hg, _⟩
  · simp [Value.ownBlock] at hk
  · simp [Value.ownBlock] at hk; omega

theorem Own.cell {w : World} {base sz n cap g : Nat} {cs : List Value} (h : Own w base sz (.slice (some ⟨g, 0, none⟩) n cap) n cs) {j : Nat} (hj : j < n * sz) : w.cell? ⟨g, j, none⟩ = cs[j]? := by
  rcases h.val with ⟨h', _⟩ | ⟨g', cap', h', hbg, hg, hn, hm, hc, ht⟩
  · simp at h'
  · simp only [Value.slice.injEq, Option.some.injEq, Addr.mk.injEq, and_true, true_and] at h'
    obtain ⟨rfl, rfl⟩ := h'
    exact hc j hj
theorem Own.free {w : World} {base sz n cap g : Nat} {cs : List Value} (h : Own w base sz (.slice (some ⟨g, 0, none⟩) n cap) n cs) (j : Nat) (hj : j < n * sz) : w.frozen? ⟨g, j, none⟩ = false := by
  rcases h.val with ⟨h', _⟩ | ⟨g', cap', h', hbg, hg, hn, hm, hc, ht⟩
  · simp at h'
  · simp only [Value.slice.injEq, Option.some.injEq, Addr.mk.injEq, and_true, true_and] at h'
    obtain ⟨rfl, rfl⟩ := h'
    exact (ht j (Nat.lt_of_lt_of_le hj (Nat.mul_le_mul_right _ hn))).2
theorem grownBy_trans {a b c : World} {row : Option Nat} (h : a.grownBy b row) (k : b.grownBy c row) : a.grownBy c row :=
  ⟨k.os.trans h.os, k.tape.trans h.tape, k.output.trans h.output, Nat.le_trans h.size k.size, fun i hi hne => (k.block i (Nat.lt_of_lt_of_le hi h.size) hne).trans (h.block i hi hne)⟩
/-- what a row of the call's own leaves below it -/
theorem Own.below_of {w w' : World} {B base sz : Nat} {v : Value} {n : Nat} {cs : List Value} (h : Own w base sz v n cs) (hg : w.grownBy w' v.ownBlock) (hB : B ≤ base) (hs : B ≤ w.heap.size) : Below B w w' :=
  (Below.refl B w).grown hg hs (fun k hk => by have := (h.ge k hk).1; omega)
/-- A store into an owned slice. -/
theorem Own.stored {w : World} {base sz n cap g : Nat} {cs : List Value} (h : Own w base sz (.slice (some ⟨g, 0, none⟩) n cap) n cs) (j : Nat) (u : Value) (hj : j < n * sz) :
    Own (w.setCell ⟨g, j, none⟩ u) base sz (.slice (some ⟨g, 0, none⟩) n cap) n (cs.set j u) ∧ w.grownBy (w.setCell ⟨g, j, none⟩ u) (some g) := by
  rcases h.val with ⟨h', _⟩ | ⟨g', cap', h', hbg, hg, hn, hm, hc, ht⟩
  · simp at h'
  · simp only [Value.slice.injEq, Option.some.injEq, Addr.mk.injEq, and_true, true_and] at h'
    obtain ⟨rfl, rfl⟩ := h'
    have hl := h.len
    refine ⟨⟨by simpa using hl, .inr ⟨g, cap, rfl, hbg, by simpa using hg, hn, hm, fun i hi => ?_, fun i hi => ⟨?_, ?_⟩⟩⟩, ⟨rfl, rfl, rfl, by simp, fun k hk hne => Below.heap_setCell _ _ _ _ (fun e => hne (by rw [e]))⟩⟩
    · by_cases e : i = j
      · subst e
        obtain ⟨x, hx⟩ := Option.isSome_iff_exists.1 (ht i (Nat.lt_of_lt_of_le hi (Nat.mul_le_mul_right _ hn))).1
        rw [World.cell?_setCell_same' _ _ _ (by rw [hx]; rfl), List.getElem?_set_self (by omega)]
      · rw [World.cell?_setCell_other (h := by intro e'; simp only [Addr.mk.injEq, true_and, and_true] at e'; omega), List.getElem?_set_ne (by omega)]
        exact hc i hi
    · by_cases e : i = j
      · subst e
        obtain ⟨x, hx⟩ := Option.isSome_iff_exists.1 (ht i hi).1
        rw [World.cell?_setCell_same' _ _ _ (by rw [hx]; rfl)]; rfl
      · rw [World.cell?_setCell_other (h := by intro e'; simp only [Addr.mk.injEq, true_and, and_true] at e'; omega)]; exact (ht i hi).1
    · rw [World.frozen?_setCell]; exact (ht i hi).2

theorem size_setCells_ (b : Nat) : ∀ (vs : List Value) (o : Nat) (w : World), (w.setCells b o vs).heap.size = w.heap.size
  | [], _, _ => rfl
  | v :: vs, o, w => by
    show ((w.setCell ⟨b, o, none⟩ v).setCells b (o + 1) vs).heap.size = _
    rw [size_setCells_ b vs]; simp
theorem tape_setCells_ (b : Nat) : ∀ (vs : List Value) (o : Nat) (w : World), (w.setCells b o vs).tape = w.tape
  | [], _, _ => rfl
  | v :: vs, o, w => by
    show ((w.setCell ⟨b, o, none⟩ v).setCells b (o + 1) vs).tape = _
    rw [tape_setCells_ b vs]; rfl

section
variable {P : Program} (w : World)

theorem run_append_src_own (base : Nat) (t tx ty e : TypeId) (i : TypeInfo) (z : Value) (size bytes : Nat) (ht : P.underlying t = some (.slice e)) (hi : P.info? e = some i) (hz : i.zero = some z)
    (hsize : i.size = size) (hby : i.bytes = bytes) (hzs : z.cells.size = size)
    (v : Value) (n : Nat) (xs : List Value) (hown : Own w base size v n xs) (x : Value) (m : Nat) (news : List Value) (hs : Src P size tx x m news w)
    (h63 : n + m ≤ maxLen) (hbytes : (n + m) * bytes ≤ 140737488355328) (hbase : base ≤ w.heap.size) :
    ∃ v' w', (Builtin.append_ #[t, tx] ty #[v, x]).run P w = .ok v' w' ∧ Own w' base size v' (n + m) (xs ++ news) ∧ w.grownBy w' v.ownBlock ∧ (v'.ownBlock = v.ownBlock ∨ v'.ownBlock = some w.heap.size) := by
  subst hsize
  subst hby
  have hxl := hown.len
  have hnl := hs.newsLen
  have hlen : (xs ++ news).length = (n + m) * i.size := by rw [List.length_append, hxl, hnl, Nat.add_mul]
  have grow : ∀ (bs : Option Addr) (sc : Nat), v = .slice bs n sc → sc < n + m → (Builtin.firstCells i.size n (.slice bs n sc)).run P w.drew = .ok xs.toArray w.drew →
      ∃ v' w', (Builtin.append_ #[t, tx] ty #[v, x]).run P w = .ok v' w' ∧ Own w' base i.size v' (n + m) (xs ++ news) ∧ w.grownBy w' v.ownBlock ∧ (v'.ownBlock = v.ownBlock ∨ v'.ownBlock = some w.heap.size) := by
    rintro bs sc rfl hg hold
    have hrun := run_append_grow_src (P := P) w t tx ty e i z ht hi hz bs n sc xs hold x m news hs hg (by simp only [maxLen] at h63; omega) (growslice_fits hg hbytes)
    have hge := grownCap_ge w (n + m) sc e
    have hcm := grownCap_le_maxLen w (n + m) sc e h63
    have hsz : ((xs ++ news).toArray ++ Builtin.zeroCells z.cells (grownCap w (n + m) sc e - (n + m))).size = grownCap w (n + m) sc e * i.size := by
      rw [Array.size_append, List.size_toArray, hlen, size_zeroCells, hzs, ← Nat.add_mul]
      congr 1
      omega
    refine ⟨_, _, hrun, ⟨hlen, .inr ⟨w.heap.size, _, rfl, hbase, by simp, hge, hcm, fun j hj => ?_, fun j hj => ⟨?_, ?_⟩⟩⟩, ⟨rfl, rfl, rfl, by simp, fun k hk _ => Below.heap_alloc w.drew _ k hk⟩, .inr rfl⟩
    · have e1 : (w.drew.alloc (.cells ((xs ++ news).toArray ++ Builtin.zeroCells z.cells (grownCap w (n + m) sc e - (n + m))) e)).cell? ⟨w.heap.size, j, none⟩ = _ := World.cell?_alloc_new w.drew _ _ j
      rw [e1, Array.getElem?_append_left (by simp only [List.size_toArray]; rw [hlen]; exact hj), List.getElem?_toArray]
    · have e1 : (w.drew.alloc (.cells ((xs ++ news).toArray ++ Builtin.zeroCells z.cells (grownCap w (n + m) sc e - (n + m))) e)).cell? ⟨w.heap.size, j, none⟩ = _ := World.cell?_alloc_new w.drew _ _ j
      rw [e1, Array.getElem?_eq_getElem (by rw [hsz]; exact hj)]
      rfl
    · exact World.frozen?_alloc_new w.drew _ _ j
  rcases hown.val with ⟨rfl, rfl⟩ | ⟨g, cap, rfl, hbg, hgs, hnc, hcm, hc, ht'⟩
  · obtain rfl : xs = [] := List.eq_nil_of_length_eq_zero (by simpa using hxl)
    by_cases hm : m = 0
    · subst hm
      obtain rfl : news = [] := List.eq_nil_of_length_eq_zero (by simpa using hnl)
      refine ⟨.slice none 0 0, w, ?_, by simpa using Own.nil w base i.size, World.grownBy.refl _ _, .inl rfl⟩
      rcases hs.kind with ⟨e', hk⟩ | hk <;> simp [Builtin.append_, run_underlying ht, run_underlying hk, sizeOf, typeInfo, hi, hs.len, hs.cells]
    · exact grow none 0 rfl (by omega) (run_firstCells_none w.drew i.size 0 0 0)
  · by_cases hfit : n + m ≤ cap
    · have hrc : (n + m) * i.size ≤ cap * i.size := Nat.mul_le_mul_right _ hfit
      rw [Nat.add_mul] at hrc
      have hsome : ∀ j, j < news.length → (w.cell? ⟨g, 0 + n * i.size + j, none⟩).isSome = true := fun j hj => by rw [Nat.zero_add]; exact (ht' _ (by omega)).1
      have hrun := run_append_room_src (P := P) w t tx ty e i ht hi g 0 n cap x m news hs hfit hsome (fun j hj => by rw [Nat.zero_add]; exact (ht' _ (by omega)).2)
      have hsz : (w.setCells g (0 + n * i.size) news).heap.size = w.heap.size := by
        exact size_setCells_ g news _ w
      refine ⟨_, _, hrun, ⟨hlen, .inr ⟨g, cap, rfl, hbg, by rw [hsz]; exact hgs, hfit, hcm, fun j hj => ?_, fun j hj => ⟨?_, (World.frozen?_setCells g _ _ _ _).trans (ht' j hj).2⟩⟩⟩, ?_, .inl rfl⟩
      · rw [Nat.add_mul] at hj
        by_cases hjo : j < n * i.size
        · rw [World.cell?_setCells_out g _ _ _ _ (fun _ _ => Or.inl (by show j < 0 + n * i.size; omega)), List.getElem?_append_left (by omega)]
          exact hc j hjo
        · have htt : j - n * i.size < news.length := by omega
          have := World.cell?_setCells_in g news (0 + n * i.size) w hsome (j - n * i.size) htt
          rw [show 0 + n * i.size + (j - n * i.size) = j by omega] at this
          rw [this, List.getElem?_append_right (by omega), hxl, List.getElem?_eq_getElem htt]
      · by_cases hin : n * i.size ≤ j ∧ j < n * i.size + news.length
        · have := World.cell?_setCells_in g news (0 + n * i.size) w hsome (j - n * i.size) (by omega)
          rw [show 0 + n * i.size + (j - n * i.size) = j by omega] at this
          rw [this]; rfl
        · rw [World.cell?_setCells_out g _ _ _ _ (fun _ _ => by show j < 0 + n * i.size ∨ 0 + n * i.size + news.length ≤ j; omega)]
          exact (ht' j hj).1
      · have hkb := World.keptBut_setCells g (may := fun p => p.block = g) news (0 + n * i.size) w (fun _ _ => rfl)
        exact ⟨hkb.1, tape_setCells_ g news _ w, hkb.2.1, by rw [hsz]; exact Nat.le_refl _, fun k hk hne => hkb.block hk (fun p hp e => hne (by simp [Value.ownBlock]; exact e.symm.trans hp))⟩
    · refine grow (some ⟨g, 0, none⟩) cap rfl (by omega) ?_
      refine run_firstCells_some w.drew i.size n ⟨g, 0, none⟩ n cap xs hxl (fun j u hu => ?_)
      rw [Addr.add_lit, Nat.zero_add]
      have hj : j < n * i.size := by
        have := (List.getElem?_eq_some_iff.1 hu).1
        omega
      exact (hc j hj).trans hu

/-- a readable slice as the source of an append -/
theorem src_at {w : World} {sz tx e' : Nat} (hk : P.underlying tx = some (.slice e')) {v : Value} {n : Nat} {cs : List Value} (h : At w sz v n cs) (h1 : ∀ u ∈ cs, u.oneCell' = true) : Src P sz tx v n cs w := by
  obtain ⟨hl, ao, cap, rfl, hn, hm, hc⟩ := h
  by_cases h0 : 0 < cap
  · obtain ⟨g, off, rfl, _, hc⟩ := hc h0
    refine Src.ofSlice w hk _ n cap cs hl (fun j u hu => ?_) h1
    have hj : j < n * sz := by
      have := (List.getElem?_eq_some_iff.1 hu).1
      omega
    rw [Addr.add_lit, hc j hj]; exact hu
  · obtain rfl : n = 0 := by omega
    obtain rfl : cs = [] := List.eq_nil_of_length_eq_zero (by simpa using hl)
    cases ao with
    | none => exact Src.ofNil w hk cap
    | some a' => exact Src.ofSlice w hk a' 0 cap [] (by simp) (fun j u hu => by simp at hu) h1

/-- append, for the walk: whatever source. -/
theorem wpList_append_o {ops : Array Oper} {rest : List Oper} {o : Oper} {a : Act} {Q : Exit → Act → World → Prop} (hgd : o.guard = none) (s x : Operand) (t tx : TypeId)
    (ho : o.op = .call { callee := .builtin .append, args := #[s, x], argTypes := #[t, tx] })
    (base : Nat) (e : TypeId) (i : TypeInfo) (z : Value) (size bytes : Nat) (ht : P.underlying t = some (.slice e)) (hi : P.info? e = some i) (hz : i.zero = some z) (hsize : i.size = size) (hby : i.bytes = bytes) (hzs : z.cells.size = size)
    {v : Value} {n : Nat} {xs : List Value} (hv : a.eval s = v) (hown : Own w base size v n xs)
    (xv : Value) (m : Nat) (news : List Value) (hx : a.eval x = xv) (hs : Src P size tx xv m news w) (h63 : n + m ≤ maxLen) (hbytes : (n + m) * bytes ≤ 140737488355328) (hbase : base ≤ w.heap.size)
    (hK : ∀ v' w', Own w' base size v' (n + m) (xs ++ news) → w.grownBy w' v.ownBlock → (v'.ownBlock = v.ownBlock ∨ v'.ownBlock = some w.heap.size) → wpList P ops Q rest (a.put o.dst v') w') : wpList P ops Q (o :: rest) a w := by
  refine wpList_plain hgd fun K hK' => ?_
  obtain ⟨v', w', hrun, r1, r2, r3⟩ := run_append_src_own (P := P) w base t tx o.type e i z size bytes ht hi hz hsize hby hzs v n xs hown xv m news hs h63 hbytes hbase
  unfold Oper.wp
  simp [execOp, ho, resolve, invoke, builtin, hv, hx, hrun, Result.andThen]
  exact hK' _ _ (hK v' w' r1 r2 r3)

/-- append, for a step of a region that draws its order. -/
theorem step_append_o {ops : Array Oper} {o : Oper} {a : Act} {K : Act → World → Prop} {Q : Exit → Act → World → Prop} {E : Prop} (hgd : o.guard = none) (s x : Operand) (t tx : TypeId)
    (ho : o.op = .call { callee := .builtin .append, args := #[s, x], argTypes := #[t, tx] })
    (base : Nat) (e : TypeId) (i : TypeInfo) (z : Value) (size bytes : Nat) (ht : P.underlying t = some (.slice e)) (hi : P.info? e = some i) (hz : i.zero = some z) (hsize : i.size = size) (hby : i.bytes = bytes) (hzs : z.cells.size = size)
    {v : Value} {n : Nat} {xs : List Value} (hown : Own w base size v n xs) (hv : a.eval s = v)
    (xv : Value) (m : Nat) (news : List Value) (hx : a.eval x = xv) (hs : Src P size tx xv m news w) (h63 : n + m ≤ maxLen) (hbytes : (n + m) * bytes ≤ 140737488355328) (hbase : base ≤ w.heap.size)
    (hK : ∀ v' w', Own w' base size v' (n + m) (xs ++ news) → w.grownBy w' v.ownBlock → (v'.ownBlock = v.ownBlock ∨ v'.ownBlock = some w.heap.size) → K (a.put o.dst v') w') :
    if Region.wanted o (yielded ops a.tmps) = true then Oper.wp P o a w K Q else E := by
  have hw : Region.wanted o (yielded ops a.tmps) = true := by simp [Region.wanted, hgd]
  rw [if_pos hw]
  obtain ⟨v', w', hrun, r1, r2, r3⟩ := run_append_src_own (P := P) w base t tx o.type e i z size bytes ht hi hz hsize hby hzs v n xs hown xv m news hs h63 hbytes hbase
  unfold Oper.wp
  simp [execOp, ho, resolve, invoke, builtin, hv, hx, hrun, Result.andThen]
  exact hK v' w' r1 r2 r3
/-- the elements of a block that was just laid, as the source of an append -/
theorem src_blk {w : World} {sz tx e' : Nat} (hk : P.underlying tx = some (.slice e')) {H m c : Nat} {C : Array Value} {T : TypeId} {cs : List Value} (hb : w.heap[H]? = some (.cells C T (0, 0))) (hC : C.toList = cs) (hl : cs.length = m * sz) (h1 : ∀ u ∈ cs, u.oneCell' = true) :
    Src P sz tx (.slice (some ⟨H, 0, none⟩) m c) m cs w :=
  Src.ofSlice w hk ⟨H, 0, none⟩ m c cs hl (fun j u hu => by rw [Addr.add_lit, Nat.zero_add, cell_of_row w H j C T (0, 0) hb, ← hu, ← hC, Array.getElem?_toList]) h1

/-- '[]byte(s)' -/
theorem run_bytes_own (base : Nat) (src dst e : TypeId) (s : ByteArray) (hs : P.underlying src = some .string) (hd : P.underlying dst = some (.slice e)) (he : P.underlying e = some (.int .u8)) (hsz : s.size ≤ maxLen) (hbase : base ≤ w.heap.size) :
    ∃ cap w', (convert src dst (.string s)).run P w = .ok (.slice (some ⟨w.heap.size, 0, none⟩) s.size cap) w' ∧ Own w' base 1 (.slice (some ⟨w.heap.size, 0, none⟩) s.size cap) s.size (byteCells s) ∧ w.grownBy w' none := by
  have hge := grownCap_ge w s.size 0 e
  have hcm := grownCap_le_maxLen w s.size 0 e hsz
  have hl : (bytesRow s (grownCap w s.size 0 e)).size = grownCap w s.size 0 e := by
    unfold bytesRow
    rw [Array.size_append, Array.size_map, Array.size_replicate]
    show s.size + _ = _
    omega
  refine ⟨_, _, run_bytes_of_string w src dst e s hs hd he, ⟨by rw [byteCells_length, Nat.mul_one], .inr ⟨_, _, rfl, hbase, by simp, hge, hcm, fun j hj => ?_, fun j hj => ⟨?_, ?_⟩⟩⟩, ⟨rfl, rfl, rfl, by simp, fun k hk _ => Below.heap_alloc w.drew _ k hk⟩⟩
  · rw [Nat.mul_one] at hj
    have e1 := World.cell?_alloc_mark w.drew (bytesRow s (grownCap w s.size 0 e)) e ((bytesRow s (grownCap w s.size 0 e)).size, (bytesRow s (grownCap w s.size 0 e)).size + 1) j
    refine e1.trans ?_
    rw [bytesRow_at s _ j hj]
    unfold byteCells
    rw [List.getElem?_map, Array.getElem?_toList, Array.getElem?_eq_getElem hj]
    rfl
  · rw [Nat.mul_one] at hj
    have e1 := World.cell?_alloc_mark w.drew (bytesRow s (grownCap w s.size 0 e)) e ((bytesRow s (grownCap w s.size 0 e)).size, (bytesRow s (grownCap w s.size 0 e)).size + 1) j
    rw [show (w.drew.alloc (.cells (bytesRow s (grownCap w s.size 0 e)) e ((bytesRow s (grownCap w s.size 0 e)).size, (bytesRow s (grownCap w s.size 0 e)).size + 1))).cell? ⟨w.heap.size, j, none⟩ = _ from e1]
    rw [Array.getElem?_eq_getElem (by rw [hl]; exact hj)]
    rfl
  · rw [Nat.mul_one] at hj
    have e1 := World.frozen?_alloc_mark w.drew (bytesRow s (grownCap w s.size 0 e)) e (bytesRow s (grownCap w s.size 0 e)).size ((bytesRow s (grownCap w s.size 0 e)).size + 1) j
    refine e1.trans ?_
    rw [hl]
    simp; omega

theorem wpList_bytes_o {ops : Array Oper} {rest : List Oper} {o : Oper} {a : Act} {Q : Exit → Act → World → Prop} (hgd : o.guard = none) (x : Operand) (src dst : TypeId)
    (ho : o.op = .convert src dst x) (base : Nat) (e : TypeId) (s : ByteArray) (hx : a.eval x = .string s) (hs : P.underlying src = some .string) (hd : P.underlying dst = some (.slice e)) (he : P.underlying e = some (.int .u8)) (hsz : s.size ≤ maxLen) (hbase : base ≤ w.heap.size)
    (hK : ∀ cap w', Own w' base 1 (.slice (some ⟨w.heap.size, 0, none⟩) s.size cap) s.size (byteCells s) → w.grownBy w' none → wpList P ops Q rest (a.put o.dst (.slice (some ⟨w.heap.size, 0, none⟩) s.size cap)) w') : wpList P ops Q (o :: rest) a w := by
  refine wpList_plain hgd fun K hK' => ?_
  obtain ⟨cap, w', hrun, r1, r2⟩ := run_bytes_own (P := P) w base src dst e s hs hd he hsz hbase
  unfold Oper.wp
  simp [execOp, ho, hx, hrun, Result.andThen]
  exact hK' _ _ (hK cap w' r1 r2)

/-- bytes as cells -/
def u8s (l : List UInt8) : List Value := l.map fun b => Value.int .u8 b.toNat
theorem u8s_len (l : List UInt8) : (u8s l).length = l.length := by simp [u8s]
theorem u8s_set (l : List UInt8) (k : Nat) (x : UInt8) : (u8s l).set k (.int .u8 x.toNat) = u8s (l.set k x) := by simp [u8s, List.map_set]
theorem u8s_append (l r : List UInt8) : u8s l ++ u8s r = u8s (l ++ r) := by simp [u8s]
/-- a number as a byte -/
def b8 (n : Int) : UInt8 := UInt8.ofNat n.toNat
theorem b8_nat {n : Int} (h0 : 0 ≤ n) (h : n < 256) : ((b8 n).toNat : Int) = n := by
  obtain ⟨k, rfl⟩ := Int.eq_ofNat_of_zero_le h0
  unfold b8
  rw [Int.toNat_natCast, UInt8.toNat_ofNat', Nat.mod_eq_of_lt (by omega)]
theorem b8_u8 (b : UInt8) : b8 (b.toNat : Int) = b := by unfold b8; rw [Int.toNat_natCast]; exact UInt8.ofNat_toNat
theorem b8_one {n : Int} (h0 : 0 ≤ n) (h : n < 256) : Hid ((#[Value.int .u8 n] : Array Value).toList = u8s [b8 n]) := by
  show [Value.int .u8 n] = u8s [b8 n]
  simp only [u8s, List.map_cons, List.map_nil]
  rw [b8_nat h0 h]
theorem b8_two {n m : Int} (h0 : 0 ≤ n) (h : n < 256) (k0 : 0 ≤ m) (k : m < 256) : Hid ((#[Value.int .u8 n, Value.int .u8 m] : Array Value).toList = u8s [b8 n, b8 m]) := by
  show [Value.int .u8 n, Value.int .u8 m] = u8s [b8 n, b8 m]
  simp only [u8s, List.map_cons, List.map_nil]
  rw [b8_nat h0 h, b8_nat k0 k]
theorem Own.fit {w : World} {base n : Nat} {v : Value} {l : List UInt8} (h : Own w base 1 v n (u8s l)) : Own w base 1 v l.length (u8s l) := by
  have e := h.len
  rw [u8s_len, Nat.mul_one] at e
  rw [e]; exact h
theorem byteCells_u8s (s : ByteArray) : byteCells s = u8s s.data.toList := rfl
/-- 'string(b)' -/
theorem run_string_at (src dst e : TypeId) (hs : P.underlying src = some (.slice e)) (he : P.underlying e = some (.int .u8)) (hd : P.underlying dst = some .string)
    (v : Value) (n : Nat) (l : List UInt8) (h : At w 1 v n (u8s l)) : (convert src dst v).run P w = .ok (.string ⟨l.toArray⟩) w := by
  obtain ⟨hl, ao, cap, rfl, hn, hm, hc⟩ := h
  unfold u8s at hl hc
  rw [List.length_map, Nat.mul_one] at hl
  subst hl
  by_cases h0 : 0 < cap
  · obtain ⟨g, off, rfl, _, hc⟩ := hc h0
    refine run_convert_bytes_back w src dst e _ cap l hs he hd (fun j hj => ?_)
    rw [Addr.add_lit, hc j (by omega)]
    simp [hj]
  · obtain rfl : l = [] := List.eq_nil_of_length_eq_zero (by omega)
    cases ao with
    | none => exact run_convert_bytes_nil w src e hs he 0 cap dst hd
    | some a =>
      exact run_convert_bytes_back w src dst e a cap [] hs he hd (fun j hj => absurd hj (Nat.not_lt_zero _))
theorem wpList_string_o {ops : Array Oper} {rest : List Oper} {o : Oper} {a : Act} {Q : Exit → Act → World → Prop} (hgd : o.guard = none) (x : Operand) (src dst : TypeId)
    (ho : o.op = .convert src dst x) (e : TypeId) (hs : P.underlying src = some (.slice e)) (he : P.underlying e = some (.int .u8)) (hd : P.underlying dst = some .string)
    (v : Value) (n : Nat) (l : List UInt8) (hx : a.eval x = v) (h : At w 1 v n (u8s l))
    (hK : wpList P ops Q rest (a.put o.dst (.string ⟨l.toArray⟩)) w) : wpList P ops Q (o :: rest) a w := by
  refine wpList_plain hgd fun K hK' => ?_
  have hrun := run_string_at (P := P) w src dst e hs he hd v n l h
  unfold Oper.wp
  simp [execOp, ho, hx, hrun, Result.andThen]
  exact hK' _ _ hK

end
end Go.Proofs.YtiopbdodegopdaaDoor
