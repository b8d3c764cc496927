/- Texts Own, Arg, At, Laws, VarFn, Var, Txt, VarLaw, Dec, Unp, IntLaw, Ints, Scr, ZerLaw, Zer, PkI in one. -/
import Derived.Test.YtiopbdodegopdaaDoorKA
import Derived.WalkKit
import Derived.WalkSpells
import Derived.WalkLawsBesides
import Derived.Lib.Hide
import Derived.Deep.AppendSrc
import Derived.Laws.IdiomStrings
import Derived.Outline
import Derived.Test.YtiopbdodegopdaaDoorRows
import Derived.Deep.RegionWith
import Derived.Lib.Strings
import Derived.Deep.OwnRows
import Derived.Laws.OwnMore
/- Slices that a call itself made, told by their cells: what is owned, how it is carried along, appended to, converted. Plain laws over any program. -/
namespace Go.Proofs.YtiopbdodegopdaaDoor
open Go.RowKit

/-- The slice value v, of n elements of sz cells each, owns the cells cs in a block from 'base' on (or is nil). -/
structure Own (w : World) (base sz : Nat) (v : Value) (n : Nat) (cs : List Value) : Prop where
  len : cs.length = n * sz
  val : (v = .slice none 0 0 ∧ n = 0) ∨ ∃ g cap, v = .slice (some ⟨g, 0, none⟩) n cap ∧ base ≤ g ∧ g < w.heap.size ∧ n ≤ cap ∧ cap ≤ maxLen ∧
    (∀ j, j < n * sz → w.cell? ⟨g, j, none⟩ = cs[j]?) ∧ (∀ j, j < cap * sz → (w.cell? ⟨g, j, none⟩).isSome = true ∧ w.frozen? ⟨g, j, none⟩ = false)

/-- The slice value v, of n elements of sz cells each, reads the cells cs. -/
structure At (w : World) (sz : Nat) (v : Value) (n : Nat) (cs : List Value) : Prop where
  len : cs.length = n * sz
  val : ∃ ao cap, v = .slice ao n cap ∧ n ≤ cap ∧ cap ≤ maxLen ∧ (0 < cap → ∃ g off, ao = some ⟨g, off, none⟩ ∧ g < w.heap.size ∧ ∀ j, j < n * sz → w.cell? ⟨g, off + j, none⟩ = cs[j]?)

theorem Own.nil (w : World) (base sz : Nat) : Own w base sz (.slice none 0 0) 0 [] := ⟨by simp, .inl ⟨rfl, rfl⟩⟩

/-- a slice literal: a block just laid -/
theorem Own.lit {w : World} {base sz n : Nat} {C : Array Value} {cs : List Value} (e : TypeId) (hC : C.toList = cs) (hl : cs.length = n * sz) (hb : base ≤ w.heap.size) (hm : n ≤ maxLen) :
    Own (w.alloc (.cells C e (0, 0))) base sz (.slice (some ⟨w.heap.size, 0, none⟩) n n) n cs := by
  refine ⟨hl, .inr ⟨_, _, rfl, hb, by simp, Nat.le_refl _, hm, fun j hj => ?_, fun j hj => ⟨?_, World.frozen?_alloc_new w _ _ j⟩⟩⟩
  · rw [World.cell?_alloc_new, ← hC, Array.getElem?_toList]
  · rw [World.cell?_alloc_new, ← Array.getElem?_toList, hC, List.getElem?_eq_getElem (by omega)]; rfl
theorem Own.of_row {w : World} {base sz : Nat} {e : TypeId} {v : Value} {n : Nat} {cs : List Value} (h : w.ownsRow base e sz v n cs) : Own w base sz v n cs := by
  refine ⟨h.1, ?_⟩
  rcases h.2 with hn | ⟨g, cap, cur, rfl, hb, hg, hn, hm, hs, ht⟩
  · exact .inl hn
  · refine .inr ⟨g, cap, rfl, hb, (Array.getElem?_eq_some_iff.1 hg).1, hn, hm, fun j hj => ?_, fun j hj => ⟨?_, frozen_of_row w g j cur e hg⟩⟩
    · rw [cell_of_row w g j cur e (0, 0) hg, ← ht, List.getElem?_take, if_pos hj]; simp
    · rw [cell_of_row w g j cur e (0, 0) hg, Array.getElem?_eq_getElem (by omega)]; rfl
theorem Own.at_ {w : World} {base sz : Nat} {v : Value} {n : Nat} {cs : List Value} (h : Own w base sz v n cs) : At w sz v n cs := by
  refine ⟨h.len, ?_⟩
  rcases h.val with ⟨rfl, rfl⟩ | ⟨g, cap, rfl, hb, hg, hn, hm, hc, _⟩
  · exact ⟨none, 0, rfl, Nat.le_refl _, Nat.zero_le _, fun h => absurd h (Nat.lt_irrefl _)⟩
  · exact ⟨_, cap, rfl, hn, hm, fun _ => ⟨g, 0, rfl, hg, fun j hj => by rw [Nat.zero_add]; exact hc j hj⟩⟩

/-- What is owned stays owned where its own block has not turned. -/
theorem Own.carry {w w' : World} {base sz : Nat} {v : Value} {n : Nat} {cs : List Value} (h : Own w base sz v n cs) (hs : w.heap.size ≤ w'.heap.size)
    (hb : ∀ g, v.ownBlock = some g → g < w.heap.size → w'.heap[g]? = w.heap[g]?) : Own w' base sz v n cs := by
  refine ⟨h.len, ?_⟩
  rcases h.val with hn | ⟨g, cap, rfl, hbg, hg, hn, hm, hc, ht⟩
  · exact .inl hn
  · have e := hb g (by simp [Value.ownBlock]) hg
    refine .inr ⟨g, cap, rfl, hbg, by omega, hn, hm, fun j hj => ?_, fun j hj => ⟨?_, ?_⟩⟩
    · rw [World.cell?_of_block (w := w) (w' := w') (a := ⟨g, j, none⟩) e]; exact hc j hj
    · rw [World.cell?_of_block (w := w) (w' := w') (a := ⟨g, j, none⟩) e]; exact (ht j hj).1
    · rw [World.frozen?_of_block (w := w) (w' := w') (a := ⟨g, j, none⟩) e]; exact (ht j hj).2
theorem Own.alloc {w : World} {base sz : Nat} {v : Value} {n : Nat} {cs : List Value} (h : Own w base sz v n cs) (o : Obj) : Own (w.alloc o) base sz v n cs :=
  h.carry (by simp) (fun g _ hg => Below.heap_alloc w o g hg)
theorem Own.drew {w : World} {base sz : Nat} {v : Value} {n : Nat} {cs : List Value} (h : Own w base sz v n cs) : Own w.drew base sz v n cs :=
  h.carry (Nat.le_refl _) (fun _ _ _ => rfl)
theorem Own.drewN {w : World} {base sz : Nat} {v : Value} {n : Nat} {cs : List Value} (h : Own w base sz v n cs) (k : Nat) : Own (w.drewN k) base sz v n cs :=
  h.carry (Nat.le_refl _) (fun _ _ _ => rfl)
theorem Own.kept {w w' : World} {base sz : Nat} {v : Value} {n : Nat} {cs : List Value} {row : Option Nat} (h : Own w base sz v n cs) (hg : w.grownBy w' row) (hne : v.ownBlock = none ∨ v.ownBlock ≠ row) : Own w' base sz v n cs :=
  h.carry hg.size (fun g hv hgl => hg.block g hgl (fun e => hne.elim (fun h0 => by rw [hv] at h0; cases h0) (fun h0 => h0 (hv.trans e))))
theorem Own.below {w w' : World} {base sz B : Nat} {v : Value} {n : Nat} {cs : List Value} (h : Own w base sz v n cs) (hb : Below B w w') (hB : ∀ g, v.ownBlock = some g → g < B) : Own w' base sz v n cs :=
  h.carry hb.size (fun g hv _ => hb.block g (hB g hv))
theorem Own.mono {w : World} {base base' sz : Nat} {v : Value} {n : Nat} {cs : List Value} (h : Own w base sz v n cs) (hb : base' ≤ base) : Own w base' sz v n cs :=
  ⟨h.len, h.val.imp id fun ⟨g, cap, a, b, c⟩ => ⟨g, cap, a, by omega, c⟩⟩
theorem Own.ge {w : World} {base sz : Nat} {v : Value} {n : Nat} {cs : List Value} (h : Own w base sz v n cs) : ∀ k, v.ownBlock = some k → base ≤ k ∧ k < w.heap.size := by
  intro k hk
  rcases h.val with ⟨rfl, _⟩ | ⟨g, cap, rfl, hb, hg, _⟩
  · simp [Value.ownBlock] at hk
  · simp [Value.ownBlock] at hk; omega

theorem Own.cell {w : World} {base sz n cap g : Nat} {cs : List Value} (h : Own w base sz (.slice (some ⟨g, 0, none⟩) n cap) n cs) {j : Nat} (hj : j < n * sz) : w.cell? ⟨g, j, none⟩ = cs[j]? := by
  rcases h.val with ⟨h', _⟩ | ⟨g', cap', h', hbg, hg, hn, hm, hc, ht⟩
  · simp at h'
  · simp only [Value.slice.injEq, Option.some.injEq, Addr.mk.injEq, and_true, true_and] at h'
    obtain ⟨rfl, rfl⟩ := h'
    exact hc j hj
theorem Own.free {w : World} {base sz n cap g : Nat} {cs : List Value} (h : Own w base sz (.slice (some ⟨g, 0, none⟩) n cap) n cs) (j : Nat) (hj : j < n * sz) : w.frozen? ⟨g, j, none⟩ = false := by
  rcases h.val with ⟨h', _⟩ | ⟨g', cap', h', hbg, hg, hn, hm, hc, ht⟩
  · simp at h'
  · simp only [Value.slice.injEq, Option.some.injEq, Addr.mk.injEq, and_true, true_and] at h'
    obtain ⟨rfl, rfl⟩ := h'
    exact (ht j (Nat.lt_of_lt_of_le hj (Nat.mul_le_mul_right _ hn))).2
theorem grownBy_trans {a b c : World} {row : Option Nat} (h : a.grownBy b row) (k : b.grownBy c row) : a.grownBy c row :=
  ⟨k.os.trans h.os, k.tape.trans h.tape, k.output.trans h.output, Nat.le_trans h.size k.size, fun i hi hne => (k.block i (Nat.lt_of_lt_of_le hi h.size) hne).trans (h.block i hi hne)⟩
/-- what a row of the call's own leaves below it -/
theorem Own.below_of {w w' : World} {B base sz : Nat} {v : Value} {n : Nat} {cs : List Value} (h : Own w base sz v n cs) (hg : w.grownBy w' v.ownBlock) (hB : B ≤ base) (hs : B ≤ w.heap.size) : Below B w w' :=
  (Below.refl B w).grown hg hs (fun k hk => by have := (h.ge k hk).1; omega)
/-- A store into an owned slice. -/
theorem Own.stored {w : World} {base sz n cap g : Nat} {cs : List Value} (h : Own w base sz (.slice (some ⟨g, 0, none⟩) n cap) n cs) (j : Nat) (u : Value) (hj : j < n * sz) :
    Own (w.setCell ⟨g, j, none⟩ u) base sz (.slice (some ⟨g, 0, none⟩) n cap) n (cs.set j u) ∧ w.grownBy (w.setCell ⟨g, j, none⟩ u) (some g) := by
  rcases h.val with ⟨h', _⟩ | ⟨g', cap', h', hbg, hg, hn, hm, hc, ht⟩
  · simp at h'
  · simp only [Value.slice.injEq, Option.some.injEq, Addr.mk.injEq, and_true, true_and] at h'
    obtain ⟨rfl, rfl⟩ := h'
    have hl := h.len
    refine ⟨⟨by simpa using hl, .inr ⟨g, cap, rfl, hbg, by simpa using hg, hn, hm, fun i hi => ?_, fun i hi => ⟨?_, ?_⟩⟩⟩, ⟨rfl, rfl, rfl, by simp, fun k hk hne => Below.heap_setCell _ _ _ _ (fun e => hne (by rw [e]))⟩⟩
    · by_cases e : i = j
      · subst e
        obtain ⟨x, hx⟩ := Option.isSome_iff_exists.1 (ht i (Nat.lt_of_lt_of_le hi (Nat.mul_le_mul_right _ hn))).1
        rw [World.cell?_setCell_same' _ _ _ (by rw [hx]; rfl), List.getElem?_set_self (by omega)]
      · rw [World.cell?_setCell_other (h := by intro e'; simp only [Addr.mk.injEq, true_and, and_true] at e'; omega), List.getElem?_set_ne (by omega)]
        exact hc i hi
    · by_cases e : i = j
      · subst e
        obtain ⟨x, hx⟩ := Option.isSome_iff_exists.1 (ht i hi).1
        rw [World.cell?_setCell_same' _ _ _ (by rw [hx]; rfl)]; rfl
      · rw [World.cell?_setCell_other (h := by intro e'; simp only [Addr.mk.injEq, true_and, and_true] at e'; omega)]; exact (ht i hi).1
    · rw [World.frozen?_setCell]; exact (ht i hi).2

theorem size_setCells_ (b : Nat) : ∀ (vs : List Value) (o : Nat) (w : World), (w.setCells b o vs).heap.size = w.heap.size
  | [], _, _ => rfl
  | v :: vs, o, w => by
    show ((w.setCell ⟨b, o, none⟩ v).setCells b (o + 1) vs).heap.size = _
    rw [size_setCells_ b vs]; simp
theorem tape_setCells_ (b : Nat) : ∀ (vs : List Value) (o : Nat) (w : World), (w.setCells b o vs).tape = w.tape
  | [], _, _ => rfl
  | v :: vs, o, w => by
    show ((w.setCell ⟨b, o, none⟩ v).setCells b (o + 1) vs).tape = _
    rw [tape_setCells_ b vs]; rfl

section
variable {P : Program} (w : World)

theorem run_append_src_own (base : Nat) (t tx ty e : TypeId) (i : TypeInfo) (z : Value) (size bytes : Nat) (ht : P.underlying t = some (.slice e)) (hi : P.info? e = some i) (hz : i.zero = some z)
    (hsize : i.size = size) (hby : i.bytes = bytes) (hzs : z.cells.size = size)
    (v : Value) (n : Nat) (xs : List Value) (hown : Own w base size v n xs) (x : Value) (m : Nat) (news : List Value) (hs : Src P size tx x m news w)
    (h63 : n + m ≤ maxLen) (hbytes : (n + m) * bytes ≤ 140737488355328) (hbase : base ≤ w.heap.size) :
    ∃ v' w', (Builtin.append_ #[t, tx] ty #[v, x]).run P w = .ok v' w' ∧ Own w' base size v' (n + m) (xs ++ news) ∧ w.grownBy w' v.ownBlock ∧ (v'.ownBlock = v.ownBlock ∨ v'.ownBlock = some w.heap.size) := by
  subst hsize
  subst hby
  have hxl := hown.len
  have hnl := hs.newsLen
  have hlen : (xs ++ news).length = (n + m) * i.size := by rw [List.length_append, hxl, hnl, Nat.add_mul]
  have grow : ∀ (bs : Option Addr) (sc : Nat), v = .slice bs n sc → sc < n + m → (Builtin.firstCells i.size n (.slice bs n sc)).run P w.drew = .ok xs.toArray w.drew →
      ∃ v' w', (Builtin.append_ #[t, tx] ty #[v, x]).run P w = .ok v' w' ∧ Own w' base i.size v' (n + m) (xs ++ news) ∧ w.grownBy w' v.ownBlock ∧ (v'.ownBlock = v.ownBlock ∨ v'.ownBlock = some w.heap.size) := by
    rintro bs sc rfl hg hold
    have hrun := run_append_grow_src (P := P) w t tx ty e i z ht hi hz bs n sc xs hold x m news hs hg (by simp only [maxLen] at h63; omega) (growslice_fits hg hbytes)
    have hge := grownCap_ge w (n + m) sc e
    have hcm := grownCap_le_maxLen w (n + m) sc e h63
    have hsz : ((xs ++ news).toArray ++ Builtin.zeroCells z.cells (grownCap w (n + m) sc e - (n + m))).size = grownCap w (n + m) sc e * i.size := by
      rw [Array.size_append, List.size_toArray, hlen, size_zeroCells, hzs, ← Nat.add_mul]
      congr 1
      omega
    refine ⟨_, _, hrun, ⟨hlen, .inr ⟨w.heap.size, _, rfl, hbase, by simp, hge, hcm, fun j hj => ?_, fun j hj => ⟨?_, ?_⟩⟩⟩, ⟨rfl, rfl, rfl, by simp, fun k hk _ => Below.heap_alloc w.drew _ k hk⟩, .inr rfl⟩
    · have e1 : (w.drew.alloc (.cells ((xs ++ news).toArray ++ Builtin.zeroCells z.cells (grownCap w (n + m) sc e - (n + m))) e)).cell? ⟨w.heap.size, j, none⟩ = _ := World.cell?_alloc_new w.drew _ _ j
      rw [e1, Array.getElem?_append_left (by simp only [List.size_toArray]; rw [hlen]; exact hj), List.getElem?_toArray]
    · have e1 : (w.drew.alloc (.cells ((xs ++ news).toArray ++ Builtin.zeroCells z.cells (grownCap w (n + m) sc e - (n + m))) e)).cell? ⟨w.heap.size, j, none⟩ = _ := World.cell?_alloc_new w.drew _ _ j
      rw [e1, Array.getElem?_eq_getElem (by rw [hsz]; exact hj)]
      rfl
    · exact World.frozen?_alloc_new w.drew _ _ j
  rcases hown.val with ⟨rfl, rfl⟩ | ⟨g, cap, rfl, hbg, hgs, hnc, hcm, hc, ht'⟩
  · obtain rfl : xs = [] := List.eq_nil_of_length_eq_zero (by simpa using hxl)
    by_cases hm : m = 0
    · subst hm
      obtain rfl : news = [] := List.eq_nil_of_length_eq_zero (by simpa using hnl)
      refine ⟨.slice none 0 0, w, ?_, by simpa using Own.nil w base i.size, World.grownBy.refl _ _, .inl rfl⟩
      rcases hs.kind with ⟨e', hk⟩ | hk <;> simp [Builtin.append_, run_underlying ht, run_underlying hk, sizeOf, typeInfo, hi, hs.len, hs.cells]
    · exact grow none 0 rfl (by omega) (run_firstCells_none w.drew i.size 0 0 0)
  · by_cases hfit : n + m ≤ cap
    · have hrc : (n + m) * i.size ≤ cap * i.size := Nat.mul_le_mul_right _ hfit
      rw [Nat.add_mul] at hrc
      have hsome : ∀ j, j < news.length → (w.cell? ⟨g, 0 + n * i.size + j, none⟩).isSome = true := fun j hj => by rw [Nat.zero_add]; exact (ht' _ (by omega)).1
      have hrun := run_append_room_src (P := P) w t tx ty e i ht hi g 0 n cap x m news hs hfit hsome (fun j hj => by rw [Nat.zero_add]; exact (ht' _ (by omega)).2)
      have hsz : (w.setCells g (0 + n * i.size) news).heap.size = w.heap.size := by
        exact size_setCells_ g news _ w
      refine ⟨_, _, hrun, ⟨hlen, .inr ⟨g, cap, rfl, hbg, by rw [hsz]; exact hgs, hfit, hcm, fun j hj => ?_, fun j hj => ⟨?_, (World.frozen?_setCells g _ _ _ _).trans (ht' j hj).2⟩⟩⟩, ?_, .inl rfl⟩
      · rw [Nat.add_mul] at hj
        by_cases hjo : j < n * i.size
        · rw [World.cell?_setCells_out g _ _ _ _ (fun _ _ => Or.inl (by show j < 0 + n * i.size; omega)), List.getElem?_append_left (by omega)]
          exact hc j hjo
        · have htt : j - n * i.size < news.length := by omega
          have := World.cell?_setCells_in g news (0 + n * i.size) w hsome (j - n * i.size) htt
          rw [show 0 + n * i.size + (j - n * i.size) = j by omega] at this
          rw [this, List.getElem?_append_right (by omega), hxl, List.getElem?_eq_getElem htt]
      · by_cases hin : n * i.size ≤ j ∧ j < n * i.size + news.length
        · have := World.cell?_setCells_in g news (0 + n * i.size) w hsome (j - n * i.size) (by omega)
          rw [show 0 + n * i.size + (j - n * i.size) = j by omega] at this
          rw [this]; rfl
        · rw [World.cell?_setCells_out g _ _ _ _ (fun _ _ => by show j < 0 + n * i.size ∨ 0 + n * i.size + news.length ≤ j; omega)]
          exact (ht' j hj).1
      · have hkb := World.keptBut_setCells g (may := fun p => p.block = g) news (0 + n * i.size) w (fun _ _ => rfl)
        exact ⟨hkb.1, tape_setCells_ g news _ w, hkb.2.1, by rw [hsz]; exact Nat.le_refl _, fun k hk hne => hkb.block hk (fun p hp e => hne (by simp [Value.ownBlock]; exact e.symm.trans hp))⟩
    · refine grow (some ⟨g, 0, none⟩) cap rfl (by omega) ?_
      refine run_firstCells_some w.drew i.size n ⟨g, 0, none⟩ n cap xs hxl (fun j u hu => ?_)
      rw [Addr.add_lit, Nat.zero_add]
      have hj : j < n * i.size := by
        have := (List.getElem?_eq_some_iff.1 hu).1
        omega
      exact (hc j hj).trans hu

/-- a readable slice as the source of an append -/
theorem src_at {w : World} {sz tx e' : Nat} (hk : P.underlying tx = some (.slice e')) {v : Value} {n : Nat} {cs : List Value} (h : At w sz v n cs) (h1 : ∀ u ∈ cs, u.oneCell' = true) : Src P sz tx v n cs w := by
  obtain ⟨hl, ao, cap, rfl, hn, hm, hc⟩ := h
  by_cases h0 : 0 < cap
  · obtain ⟨g, off, rfl, _, hc⟩ := hc h0
    refine Src.ofSlice w hk _ n cap cs hl (fun j u hu => ?_) h1
    have hj : j < n * sz := by
      have := (List.getElem?_eq_some_iff.1 hu).1
      omega
    rw [Addr.add_lit, hc j hj]; exact hu
  · obtain rfl : n = 0 := by omega
    obtain rfl : cs = [] := List.eq_nil_of_length_eq_zero (by simpa using hl)
    cases ao with
    | none => exact Src.ofNil w hk cap
    | some a' => exact Src.ofSlice w hk a' 0 cap [] (by simp) (fun j u hu => by simp at hu) h1

/-- append, for the walk: whatever source. -/
theorem wpList_append_o {ops : Array Oper} {rest : List Oper} {o : Oper} {a : Act} {Q : Exit → Act → World → Prop} (hgd : o.guard = none) (s x : Operand) (t tx : TypeId)
    (ho : o.op = .call { callee := .builtin .append, args := #[s, x], argTypes := #[t, tx] })
    (base : Nat) (e : TypeId) (i : TypeInfo) (z : Value) (size bytes : Nat) (ht : P.underlying t = some (.slice e)) (hi : P.info? e = some i) (hz : i.zero = some z) (hsize : i.size = size) (hby : i.bytes = bytes) (hzs : z.cells.size = size)
    {v : Value} {n : Nat} {xs : List Value} (hv : a.eval s = v) (hown : Own w base size v n xs)
    (xv : Value) (m : Nat) (news : List Value) (hx : a.eval x = xv) (hs : Src P size tx xv m news w) (h63 : n + m ≤ maxLen) (hbytes : (n + m) * bytes ≤ 140737488355328) (hbase : base ≤ w.heap.size)
    (hK : ∀ v' w', Own w' base size v' (n + m) (xs ++ news) → w.grownBy w' v.ownBlock → (v'.ownBlock = v.ownBlock ∨ v'.ownBlock = some w.heap.size) → wpList P ops Q rest (a.put o.dst v') w') : wpList P ops Q (o :: rest) a w := by
  refine wpList_plain hgd fun K hK' => ?_
  obtain ⟨v', w', hrun, r1, r2, r3⟩ := run_append_src_own (P := P) w base t tx o.type e i z size bytes ht hi hz hsize hby hzs v n xs hown xv m news hs h63 hbytes hbase
  unfold Oper.wp
  simp [execOp, ho, resolve, invoke, builtin, hv, hx, hrun, Result.andThen]
  exact hK' _ _ (hK v' w' r1 r2 r3)

/-- append, for a step of a region that draws its order. -/
theorem step_append_o {ops : Array Oper} {o : Oper} {a : Act} {K : Act → World → Prop} {Q : Exit → Act → World → Prop} {E : Prop} (hgd : o.guard = none) (s x : Operand) (t tx : TypeId)
    (ho : o.op = .call { callee := .builtin .append, args := #[s, x], argTypes := #[t, tx] })
    (base : Nat) (e : TypeId) (i : TypeInfo) (z : Value) (size bytes : Nat) (ht : P.underlying t = some (.slice e)) (hi : P.info? e = some i) (hz : i.zero = some z) (hsize : i.size = size) (hby : i.bytes = bytes) (hzs : z.cells.size = size)
    {v : Value} {n : Nat} {xs : List Value} (hown : Own w base size v n xs) (hv : a.eval s = v)
    (xv : Value) (m : Nat) (news : List Value) (hx : a.eval x = xv) (hs : Src P size tx xv m news w) (h63 : n + m ≤ maxLen) (hbytes : (n + m) * bytes ≤ 140737488355328) (hbase : base ≤ w.heap.size)
    (hK : ∀ v' w', Own w' base size v' (n + m) (xs ++ news) → w.grownBy w' v.ownBlock → (v'.ownBlock = v.ownBlock ∨ v'.ownBlock = some w.heap.size) → K (a.put o.dst v') w') :
    if Region.wanted o (yielded ops a.tmps) = true then Oper.wp P o a w K Q else E := by
  have hw : Region.wanted o (yielded ops a.tmps) = true := by simp [Region.wanted, hgd]
  rw [if_pos hw]
  obtain ⟨v', w', hrun, r1, r2, r3⟩ := run_append_src_own (P := P) w base t tx o.type e i z size bytes ht hi hz hsize hby hzs v n xs hown xv m news hs h63 hbytes hbase
  unfold Oper.wp
  simp [execOp, ho, resolve, invoke, builtin, hv, hx, hrun, Result.andThen]
  exact hK v' w' r1 r2 r3
/-- the elements of a block that was just laid, as the source of an append -/
theorem src_blk {w : World} {sz tx e' : Nat} (hk : P.underlying tx = some (.slice e')) {H m c : Nat} {C : Array Value} {T : TypeId} {cs : List Value} (hb : w.heap[H]? = some (.cells C T (0, 0))) (hC : C.toList = cs) (hl : cs.length = m * sz) (h1 : ∀ u ∈ cs, u.oneCell' = true) :
    Src P sz tx (.slice (some ⟨H, 0, none⟩) m c) m cs w :=
  Src.ofSlice w hk ⟨H, 0, none⟩ m c cs hl (fun j u hu => by rw [Addr.add_lit, Nat.zero_add, cell_of_row w H j C T (0, 0) hb, ← hu, ← hC, Array.getElem?_toList]) h1

/-- '[]byte(s)' -/
theorem run_bytes_own (base : Nat) (src dst e : TypeId) (s : ByteArray) (hs : P.underlying src = some .string) (hd : P.underlying dst = some (.slice e)) (he : P.underlying e = some (.int .u8)) (hsz : s.size ≤ maxLen) (hbase : base ≤ w.heap.size) :
    ∃ cap w', (convert src dst (.string s)).run P w = .ok (.slice (some ⟨w.heap.size, 0, none⟩) s.size cap) w' ∧ Own w' base 1 (.slice (some ⟨w.heap.size, 0, none⟩) s.size cap) s.size (byteCells s) ∧ w.grownBy w' none := by
  have hge := grownCap_ge w s.size 0 e
  have hcm := grownCap_le_maxLen w s.size 0 e hsz
  have hl : (bytesRow s (grownCap w s.size 0 e)).size = grownCap w s.size 0 e := by
    unfold bytesRow
    rw [Array.size_append, Array.size_map, Array.size_replicate]
    show s.size + _ = _
    omega
  refine ⟨_, _, run_bytes_of_string w src dst e s hs hd he, ⟨by rw [byteCells_length, Nat.mul_one], .inr ⟨_, _, rfl, hbase, by simp, hge, hcm, fun j hj => ?_, fun j hj => ⟨?_, ?_⟩⟩⟩, ⟨rfl, rfl, rfl, by simp, fun k hk _ => Below.heap_alloc w.drew _ k hk⟩⟩
  · rw [Nat.mul_one] at hj
    have e1 := World.cell?_alloc_mark w.drew (bytesRow s (grownCap w s.size 0 e)) e ((bytesRow s (grownCap w s.size 0 e)).size, (bytesRow s (grownCap w s.size 0 e)).size + 1) j
    refine e1.trans ?_
    rw [bytesRow_at s _ j hj]
    unfold byteCells
    rw [List.getElem?_map, Array.getElem?_toList, Array.getElem?_eq_getElem hj]
    rfl
  · rw [Nat.mul_one] at hj
    have e1 := World.cell?_alloc_mark w.drew (bytesRow s (grownCap w s.size 0 e)) e ((bytesRow s (grownCap w s.size 0 e)).size, (bytesRow s (grownCap w s.size 0 e)).size + 1) j
    rw [show (w.drew.alloc (.cells (bytesRow s (grownCap w s.size 0 e)) e ((bytesRow s (grownCap w s.size 0 e)).size, (bytesRow s (grownCap w s.size 0 e)).size + 1))).cell? ⟨w.heap.size, j, none⟩ = _ from e1]
    rw [Array.getElem?_eq_getElem (by rw [hl]; exact hj)]
    rfl
  · rw [Nat.mul_one] at hj
    have e1 := World.frozen?_alloc_mark w.drew (bytesRow s (grownCap w s.size 0 e)) e (bytesRow s (grownCap w s.size 0 e)).size ((bytesRow s (grownCap w s.size 0 e)).size + 1) j
    refine e1.trans ?_
    rw [hl]
    simp; omega

theorem wpList_bytes_o {ops : Array Oper} {rest : List Oper} {o : Oper} {a : Act} {Q : Exit → Act → World → Prop} (hgd : o.guard = none) (x : Operand) (src dst : TypeId)
    (ho : o.op = .convert src dst x) (base : Nat) (e : TypeId) (s : ByteArray) (hx : a.eval x = .string s) (hs : P.underlying src = some .string) (hd : P.underlying dst = some (.slice e)) (he : P.underlying e = some (.int .u8)) (hsz : s.size ≤ maxLen) (hbase : base ≤ w.heap.size)
    (hK : ∀ cap w', Own w' base 1 (.slice (some ⟨w.heap.size, 0, none⟩) s.size cap) s.size (byteCells s) → w.grownBy w' none → wpList P ops Q rest (a.put o.dst (.slice (some ⟨w.heap.size, 0, none⟩) s.size cap)) w') : wpList P ops Q (o :: rest) a w := by
  refine wpList_plain hgd fun K hK' => ?_
  obtain ⟨cap, w', hrun, r1, r2⟩ := run_bytes_own (P := P) w base src dst e s hs hd he hsz hbase
  unfold Oper.wp
  simp [execOp, ho, hx, hrun, Result.andThen]
  exact hK' _ _ (hK cap w' r1 r2)

/-- bytes as cells -/
def u8s (l : List UInt8) : List Value := l.map fun b => Value.int .u8 b.toNat
theorem u8s_len (l : List UInt8) : (u8s l).length = l.length := by simp [u8s]
theorem u8s_set (l : List UInt8) (k : Nat) (x : UInt8) : (u8s l).set k (.int .u8 x.toNat) = u8s (l.set k x) := by simp [u8s, List.map_set]
theorem u8s_append (l r : List UInt8) : u8s l ++ u8s r = u8s (l ++ r) := by simp [u8s]
/-- a number as a byte -/
def b8 (n : Int) : UInt8 := UInt8.ofNat n.toNat
theorem b8_nat {n : Int} (h0 : 0 ≤ n) (h : n < 256) : ((b8 n).toNat : Int) = n := by
  obtain ⟨k, rfl⟩ := Int.eq_ofNat_of_zero_le h0
  unfold b8
  rw [Int.toNat_natCast, UInt8.toNat_ofNat', Nat.mod_eq_of_lt (by omega)]
theorem b8_u8 (b : UInt8) : b8 (b.toNat : Int) = b := by unfold b8; rw [Int.toNat_natCast]; exact UInt8.ofNat_toNat
theorem b8_one {n : Int} (h0 : 0 ≤ n) (h : n < 256) : Hid ((#[Value.int .u8 n] : Array Value).toList = u8s [b8 n]) := by
  show [Value.int .u8 n] = u8s [b8 n]
  simp only [u8s, List.map_cons, List.map_nil]
  rw [b8_nat h0 h]
theorem b8_two {n m : Int} (h0 : 0 ≤ n) (h : n < 256) (k0 : 0 ≤ m) (k : m < 256) : Hid ((#[Value.int .u8 n, Value.int .u8 m] : Array Value).toList = u8s [b8 n, b8 m]) := by
  show [Value.int .u8 n, Value.int .u8 m] = u8s [b8 n, b8 m]
  simp only [u8s, List.map_cons, List.map_nil]
  rw [b8_nat h0 h, b8_nat k0 k]
theorem Own.fit {w : World} {base n : Nat} {v : Value} {l : List UInt8} (h : Own w base 1 v n (u8s l)) : Own w base 1 v l.length (u8s l) := by
  have e := h.len
  rw [u8s_len, Nat.mul_one] at e
  rw [e]; exact h
theorem byteCells_u8s (s : ByteArray) : byteCells s = u8s s.data.toList := rfl
/-- 'string(b)' -/
theorem run_string_at (src dst e : TypeId) (hs : P.underlying src = some (.slice e)) (he : P.underlying e = some (.int .u8)) (hd : P.underlying dst = some .string)
    (v : Value) (n : Nat) (l : List UInt8) (h : At w 1 v n (u8s l)) : (convert src dst v).run P w = .ok (.string ⟨l.toArray⟩) w := by
  obtain ⟨hl, ao, cap, rfl, hn, hm, hc⟩ := h
  unfold u8s at hl hc
  rw [List.length_map, Nat.mul_one] at hl
  subst hl
  by_cases h0 : 0 < cap
  · obtain ⟨g, off, rfl, _, hc⟩ := hc h0
    refine run_convert_bytes_back w src dst e _ cap l hs he hd (fun j hj => ?_)
    rw [Addr.add_lit, hc j (by omega)]
    simp [hj]
  · obtain rfl : l = [] := List.eq_nil_of_length_eq_zero (by omega)
    cases ao with
    | none => exact run_convert_bytes_nil w src e hs he 0 cap dst hd
    | some a =>
      exact run_convert_bytes_back w src dst e a cap [] hs he hd (fun j hj => absurd hj (Nat.not_lt_zero _))
theorem wpList_string_o {ops : Array Oper} {rest : List Oper} {o : Oper} {a : Act} {Q : Exit → Act → World → Prop} (hgd : o.guard = none) (x : Operand) (src dst : TypeId)
    (ho : o.op = .convert src dst x) (e : TypeId) (hs : P.underlying src = some (.slice e)) (he : P.underlying e = some (.int .u8)) (hd : P.underlying dst = some .string)
    (v : Value) (n : Nat) (l : List UInt8) (hx : a.eval x = v) (h : At w 1 v n (u8s l))
    (hK : wpList P ops Q rest (a.put o.dst (.string ⟨l.toArray⟩)) w) : wpList P ops Q (o :: rest) a w := by
  refine wpList_plain hgd fun K hK' => ?_
  have hrun := run_string_at (P := P) w src dst e hs he hd v n l h
  unfold Oper.wp
  simp [execOp, ho, hx, hrun, Result.andThen]
  exact hK' _ _ hK

end
end Go.Proofs.YtiopbdodegopdaaDoor
/- Arguments that are slices of whole numbers: what is known of them at the start of a law. -/
namespace Go.Proofs.YtiopbdodegopdaaDoor
open Go.RowKit Go.WideShapes Go.ChangeShapes

/-- The value v is a slice whose cells read the numbers l. -/
def ArgNum (k : IntKind) (w : World) (v : Value) : Prop := ∃ l : List Int, At w 1 v l.length (l.map (Value.int k)) ∧ ∀ n ∈ l, (Lit.int k n).wf = true
theorem open_num {P : Program} {t e : TypeId} {k : IntKind} {H : Type} {enc : TypeId × Value → H} {w W : World} {r : Reach} {base b0 : Nat} {v : Value} {d : DataW H} {ps : List MemPlace}
    (ht : P.underlying t = some (.slice e)) (he : P.underlying e = some (.int k)) (hc : P.cellsOf e = 1) (hval : Value.okWide P w r base t v) (hd : DataW.Trod enc P W b0 (fun _ => true) true t v d ps) : ArgNum k W v := by
  obtain ⟨a, len, cap, rfl⟩ := okWide_slice ht hval
  obtain ⟨fuel, hf⟩ := hd
  rcases Go.ChangeShapes.open_ints ht he hc hf with ⟨h1, _⟩ | ⟨a', len', cap', zs, h1, _, hlc, hcm, hzl, _, hcell, hwf⟩
  · simp [Value.cells] at h1
    obtain ⟨rfl, rfl, rfl⟩ := h1
    exact ⟨[], ⟨rfl, none, 0, rfl, Nat.le_refl _, Nat.zero_le _, fun h => absurd h (Nat.lt_irrefl _)⟩, fun n h => by simp at h⟩
  · simp [Value.cells] at h1
    obtain ⟨rfl, rfl, rfl⟩ := h1
    simp only [if_true] at hzl
    have hl : (zs.take len).length = len := by rw [List.length_take]; omega
    refine ⟨zs.take len, ⟨by rw [List.length_map, Nat.mul_one], some a', cap, by rw [hl], by omega, hcm, fun h0 => ?_⟩, fun n hn => hwf n (List.mem_of_mem_take hn)⟩
    have c0 := hcell 0 (by omega)
    have hspot : a'.spot = none := World.cell?_spot (a := a') (by simpa [Addr.add] using c0)
    obtain ⟨g, off, spot⟩ := a'
    simp only at hspot
    subst hspot
    refine ⟨g, off, rfl, World.block_lt_of_cell? W ⟨g, off, none⟩ (u := Value.int k (zs.getD 0 0)) (by simpa [Addr.add] using c0), fun j hj => ?_⟩
    have hj' : j < len := by rw [hl] at hj; omega
    have cj := hcell j (by omega)
    have ea : (⟨g, off, none⟩ : Addr).add j = ⟨g, off + j, none⟩ := by unfold Addr.add; split <;> simp_all
    rw [ea] at cj
    rw [cj, List.getElem?_map, List.getElem?_take, if_pos hj', List.getElem?_eq_getElem (by omega)]
    simp [List.getD, List.getElem?_eq_getElem (show j < zs.length by omega)]
def Arg_ints (w : World) (v : Value) : Prop := ArgNum .i64 w v
def Arg_u8s (w : World) (v : Value) : Prop := ArgNum .u8 w v
set_option maxRecDepth 100000 in
theorem open_u8s {H : Type} {enc : TypeId × Value → H} {w W : World} {r : Reach} {base b0 : Nat} {v : Value} {d : DataW H} {ps : List MemPlace} (hval : Value.okWide Tryd.prog w r base 22 v) (hd : DataW.Trod enc Tryd.prog W b0 (fun _ => true) true 22 v d ps) : Arg_u8s W v :=
  open_num Tryd.underlying22 Tryd.underlying5 (by kernel_rfl) hval hd
set_option maxRecDepth 100000 in
theorem open_ints {H : Type} {enc : TypeId × Value → H} {w W : World} {r : Reach} {base b0 : Nat} {v : Value} {d : DataW H} {ps : List MemPlace} (hval : Value.okWide Tryd.prog w r base 37 v) (hd : DataW.Trod enc Tryd.prog W b0 (fun _ => true) true 37 v d ps) : Arg_ints W v :=
  open_num Tryd.underlying37 Tryd.underlying3 (by kernel_rfl) hval hd
end Go.Proofs.YtiopbdodegopdaaDoor
/- 'at' and 'big' of the laws: a byte of the code. -/
namespace Go.Proofs.YtiopbdodegopdaaDoor
open Go.RowKit

def atV (l : List Int) (i : Int) : Int := if l.length = 0 then 0 else l.getD ((i * 5 + 1) % (l.length : Int)).toNat 0
theorem At.cell {w : World} {v : Value} {k : IntKind} {l : List Int} (h : At w 1 v l.length (l.map (Value.int k))) : ∃ ao cap, v = .slice ao l.length cap ∧ (0 < l.length → ∃ g off, ao = some ⟨g, off, none⟩ ∧ g < w.heap.size ∧ ∀ j (hj : j < l.length), w.cell? ⟨g, off + j, none⟩ = some (.int k (l[j]'hj))) := by
  obtain ⟨_, ao, cap, rfl, hn, _, hc⟩ := h
  refine ⟨ao, cap, rfl, fun h0 => ?_⟩
  obtain ⟨g, off, rfl, hg, hc⟩ := hc (by omega)
  exact ⟨g, off, rfl, hg, fun j hj => by rw [hc j (by omega), List.getElem?_map, List.getElem?_eq_getElem hj]; rfl⟩
end Go.Proofs.YtiopbdodegopdaaDoor
/- The laws on owned slices at this program's type numbers. -/
namespace Go.Proofs.YtiopbdodegopdaaDoor
open Go.RowKit
variable {ops : Array Oper} {rest : List Oper} {o : Oper} {a : Act} {Q : Exit → Act → World → Prop}

/-- '[]byte(s)' -/
theorem bytes_law (w : World) (hgd : o.guard = none) (x : Operand) (ho : o.op = .convert 9 22 x) (base : Nat) (s : ByteArray) (hx : a.eval x = .string s) (hsz : s.size ≤ maxLen) (hbase : base ≤ w.heap.size)
    (hK : ∀ cap w', Own w' base 1 (.slice (some ⟨w.heap.size, 0, none⟩) s.size cap) s.size (u8s s.data.toList) → w.grownBy w' none → wpList Tryd.prog ops Q rest (a.put o.dst (.slice (some ⟨w.heap.size, 0, none⟩) s.size cap)) w') : wpList Tryd.prog ops Q (o :: rest) a w :=
  wpList_bytes_o w hgd x 9 22 ho base 5 s hx Tryd.underlying9 Tryd.underlying22 Tryd.underlying5 hsz hbase hK
/-- 'string(b)' -/
theorem str_law (w : World) (hgd : o.guard = none) (x : Operand) (ho : o.op = .convert 22 9 x) {v : Value} {n : Nat} {l : List UInt8} (h : At w 1 v n (u8s l)) (hx : a.eval x = v)
    (hK : wpList Tryd.prog ops Q rest (a.put o.dst (.string ⟨l.toArray⟩)) w) : wpList Tryd.prog ops Q (o :: rest) a w :=
  wpList_string_o w hgd x 22 9 ho 5 Tryd.underlying22 Tryd.underlying5 Tryd.underlying9 v n l hx h hK

theorem info_u8 : (Tryd.prog.info? 5).map (fun i => (i.zero, i.size, i.bytes)) = some (some (.int .u8 0), 1, 1) := by kernel_rfl
theorem u8s_one (l : List UInt8) : ∀ u ∈ u8s l, u.oneCell' = true := by
  intro u hu
  obtain ⟨_, _, rfl⟩ := List.mem_map.1 hu
  rfl

/-- 'append(out, x)', 'append(out, x, y)' on a []byte: the new elements lie in a block that was just laid. -/
theorem app_u8 (w : World) (C : Array Value) (hgd : o.guard = none) (s x : Operand) (ho : o.op = .call { callee := .builtin .append, args := #[s, x], argTypes := #[22, 22] }) (base : Nat)
    {v : Value} {n : Nat} {l : List UInt8} (hown : Own w base 1 v n (u8s l)) (hv : a.eval s = v) (m c : Nat) (news : List UInt8) (hx : a.eval x = .slice (some ⟨w.heap.size, 0, none⟩) m c) (hC : Hid (C.toList = u8s news)) (hm : m = news.length)
    (hbytes : n + m ≤ 140737488355328) (hbase : base ≤ w.heap.size)
    (hK : ∀ v' w', Own w' base 1 v' (n + m) (u8s (l ++ news)) → w.grownBy w' v.ownBlock → (v'.ownBlock = v.ownBlock ∨ ∃ g, v'.ownBlock = some g ∧ w.heap.size ≤ g) → wpList Tryd.prog ops Q rest (a.put o.dst v') w') :
    wpList Tryd.prog ops Q (o :: rest) a (w.alloc (.cells C 5 (0, 0))) := by
  obtain ⟨i0, hi, hz0, hz1, hz2⟩ := info_parts info_u8
  refine wpList_append_o (P := Tryd.prog) (w.alloc (.cells C 5 (0, 0))) hgd s x 22 22 ho base 5 i0 (.int .u8 0) 1 1 Tryd.underlying22 hi hz0 hz1 hz2 rfl hv (hown.alloc _) _ m (u8s news) hx
    (Src.ofSlice (P := Tryd.prog) _ (size := 1) Tryd.underlying22 ⟨w.heap.size, 0, none⟩ m c (u8s news) (by rw [u8s_len, hm, Nat.mul_one]) (fun j u hu => ?_) (u8s_one news))
    (by unfold maxLen; omega) (by omega) (by simp; omega) (fun v' w' h1 h2 h3 => ?_)
  · rw [Addr.add_lit, Nat.zero_add, World.cell?_alloc_new, ← hu, ← hC.out, Array.getElem?_toList]
  · rw [u8s_append] at h1
    refine hK v' w' h1 (grownBy_trans (World.grownBy_alloc w _ _) h2) ?_
    rcases h3 with h3 | h3
    · exact .inl h3
    · exact .inr ⟨_, h3, by simp⟩
/-- 'append(out, s...)', s a string -/
theorem app_str (w : World) (hgd : o.guard = none) (s x : Operand) (ho : o.op = .call { callee := .builtin .append, args := #[s, x], argTypes := #[22, 9] }) (base : Nat)
    {v : Value} {n : Nat} {l : List UInt8} (hown : Own w base 1 v n (u8s l)) (hv : a.eval s = v) (t : ByteArray) (hx : a.eval x = .string t)
    (hbytes : n + t.size ≤ 140737488355328) (hbase : base ≤ w.heap.size)
    (hK : ∀ v' w', Own w' base 1 v' (n + t.size) (u8s (l ++ t.data.toList)) → w.grownBy w' v.ownBlock → (v'.ownBlock = v.ownBlock ∨ ∃ g, v'.ownBlock = some g ∧ w.heap.size ≤ g) → wpList Tryd.prog ops Q rest (a.put o.dst v') w') :
    wpList Tryd.prog ops Q (o :: rest) a w := by
  obtain ⟨i0, hi, hz0, hz1, hz2⟩ := info_parts info_u8
  refine wpList_append_o (P := Tryd.prog) w hgd s x 22 9 ho base 5 i0 (.int .u8 0) 1 1 Tryd.underlying22 hi hz0 hz1 hz2 rfl hv hown _ t.size (byteCells t) hx
    (Src.ofString (P := Tryd.prog) w Tryd.underlying9 t) (by unfold maxLen; omega) (by omega) (by omega) (fun v' w' h1 h2 h3 => ?_)
  rw [byteCells_u8s, u8s_append] at h1
  refine hK v' w' h1 h2 ?_
  rcases h3 with h3 | h3
  · exact .inl h3
  · exact .inr ⟨_, h3, Nat.le_refl _⟩
/-- 'append(out, b...)', b a []byte -/
theorem app_bytes (w : World) (hgd : o.guard = none) (s x : Operand) (ho : o.op = .call { callee := .builtin .append, args := #[s, x], argTypes := #[22, 22] }) (base : Nat)
    {v : Value} {n : Nat} {l : List UInt8} (hown : Own w base 1 v n (u8s l)) (hv : a.eval s = v) {xv : Value} {m : Nat} {news : List UInt8} (hat : At w 1 xv m (u8s news)) (hx : a.eval x = xv)
    (hbytes : n + m ≤ 140737488355328) (hbase : base ≤ w.heap.size)
    (hK : ∀ v' w', Own w' base 1 v' (n + m) (u8s (l ++ news)) → w.grownBy w' v.ownBlock → (v'.ownBlock = v.ownBlock ∨ ∃ g, v'.ownBlock = some g ∧ w.heap.size ≤ g) → wpList Tryd.prog ops Q rest (a.put o.dst v') w') :
    wpList Tryd.prog ops Q (o :: rest) a w := by
  obtain ⟨i0, hi, hz0, hz1, hz2⟩ := info_parts info_u8
  refine wpList_append_o (P := Tryd.prog) w hgd s x 22 22 ho base 5 i0 (.int .u8 0) 1 1 Tryd.underlying22 hi hz0 hz1 hz2 rfl hv hown _ m _ hx
    (src_at (P := Tryd.prog) Tryd.underlying22 hat (u8s_one _)) (by unfold maxLen; omega) (by omega) (by omega) (fun v' w' h1 h2 h3 => ?_)
  rw [u8s_append] at h1
  refine hK v' w' h1 h2 ?_
  rcases h3 with h3 | h3
  · exact .inl h3
  · exact .inr ⟨_, h3, Nat.le_refl _⟩

/-- 'append(out, x, ..)' on a []byte inside a region that draws its order: the new elements lie in block H -/
theorem step_u8 {K : Act → World → Prop} {E : Prop} {W : World} {H : Nat} {C : Array Value} (hblk : W.heap[H]? = some (.cells C 5 (0, 0))) (base : Nat)
    {v : Value} {n : Nat} {l : List UInt8} (hown : Own W base 1 v n (u8s l)) (news : List UInt8) (hC : Hid (C.toList = u8s news)) (hgd : o.guard = none) (s x : Operand)
    (ho : o.op = .call { callee := .builtin .append, args := #[s, x], argTypes := #[22, 22] }) (hv : a.eval s = v) (m c : Nat) (hx : a.eval x = .slice (some ⟨H, 0, none⟩) m c) (hm : m = news.length)
    (hbytes : n + m ≤ 140737488355328) (hbase : base ≤ W.heap.size)
    (hK : ∀ v' w', Own w' base 1 v' (n + m) (u8s (l ++ news)) → W.grownBy w' v.ownBlock → (v'.ownBlock = v.ownBlock ∨ v'.ownBlock = some W.heap.size) → K (a.put o.dst v') w') :
    if Region.wanted o (yielded ops a.tmps) = true then Oper.wp Tryd.prog o a W K Q else E := by
  obtain ⟨i0, hi, hz0, hz1, hz2⟩ := info_parts info_u8
  refine step_append_o (P := Tryd.prog) W hgd s x 22 22 ho base 5 i0 (.int .u8 0) 1 1 Tryd.underlying22 hi hz0 hz1 hz2 rfl hown hv _ m (u8s news) hx
    (src_blk (P := Tryd.prog) Tryd.underlying22 hblk hC.out (by rw [u8s_len, hm, Nat.mul_one]) (u8s_one _)) (by unfold maxLen; omega) (by omega) hbase (fun v' w' h1 h2 h3 => ?_)
  rw [u8s_append] at h1
  exact hK v' w' h1 h2 h3
/-- 'make([]byte, 0, n)' -/
theorem make0_u8 (w : World) (hgd : o.guard = none) (l c : Operand) (ho : o.op = Op.makeSlice 22 l c) (base n : Nat) (C : Int) (hl : a.eval l = .int .i64 0) (hc : a.eval c = .int .i64 C) (hC : C = (n : Int)) (hn : n ≤ 140737488355328) (hbase : base ≤ w.heap.size)
    (hK : ∀ w', Own w' base 1 (.slice (some ⟨w.heap.size, 0, none⟩) 0 n) 0 (u8s []) → w.grownBy w' none → wpList Tryd.prog ops Q rest (a.put o.dst (.slice (some ⟨w.heap.size, 0, none⟩) 0 n)) w') :
    wpList Tryd.prog ops Q (o :: rest) a w := by
  obtain ⟨i0, hi, hz0, hz1, hz2⟩ := info_parts info_u8
  exact wpList_make_own (P := Tryd.prog) w hgd l c 22 ho base 5 i0 (.int .u8 0) 1 Tryd.underlying22 hi hz0 hz1 .i64 .i64 C n hl hc hC (by rw [hz2]; omega) (by unfold maxLen; omega) hbase (fun w' h1 h2 => hK w' (Own.of_row h1) h2)

/-- '[]byte{x, y, z, t}' -/
theorem lit4 (w : World) (x y z t : Int) (hx : 0 ≤ x ∧ x < 256) (hy : 0 ≤ y ∧ y < 256) (hz : 0 ≤ z ∧ z < 256) (ht : 0 ≤ t ∧ t < 256) :
    At (w.alloc (.cells #[.int .u8 x, .int .u8 y, .int .u8 z, .int .u8 t] 5)) 1 (.slice (some ⟨w.heap.size, 0, none⟩) 4 4) 4 (u8s [b8 x, b8 y, b8 z, b8 t]) := by
  refine (Own.lit (w := w) (C := #[.int .u8 x, .int .u8 y, .int .u8 z, .int .u8 t]) (base := 0) (sz := 1) (n := 4) 5 ?_ rfl (Nat.zero_le _) (by unfold maxLen; omega)).at_
  simp only [u8s, List.map_cons, List.map_nil]
  rw [b8_nat hx.1 hx.2, b8_nat hy.1 hy.2, b8_nat hz.1 hz.2, b8_nat ht.1 ht.2]
end Go.Proofs.YtiopbdodegopdaaDoor
/- Numbers written to the base 128: the plain function. No program. -/
namespace Go.Proofs.YtiopbdodegopdaaDoor
/-- the digits to the base 128, the lowest first; f: how many more there may be -/
def encF : Nat → Int → List UInt8
  | 0, m => [b8 m]
  | f + 1, m => if m < 128 then [b8 m] else b8 (m % 128 + 128) :: encF f (m / 128)
def encV (n : Int) : List UInt8 := if n < 0 ∨ 1099511627775 < n then [] else encF 5 n
def encVar (n : Int) : ByteArray := ⟨(encV n).toArray⟩
theorem encF_lt {f : Nat} {m : Int} (h : m < 128) : encF f m = [b8 m] := by cases f <;> simp [encF, h]
theorem encF_ge {f : Nat} {m : Int} (h : ¬ m < 128) : encF (f + 1) m = b8 (m % 128 + 128) :: encF f (m / 128) := by simp [encF, h]
theorem encV_out {n : Int} (h : n < 0 ∨ 1099511627775 < n) : encV n = [] := if_pos h
theorem encF_end {f : Nat} {m n : Int} {l : List UInt8} (h : encV n = l ++ encF f m) (hm : m < 128) : encV n = l ++ [b8 m] := by rw [h, encF_lt hm]
theorem encF_more {f : Nat} {m n : Int} {l : List UInt8} (h : encV n = l ++ encF (f + 1) m) (hm : ¬ m < 128) : encV n = (l ++ [b8 (m % 128 + 128)]) ++ encF f (m / 128) := by rw [h, encF_ge hm]; simp
theorem encF_fuel {f : Nat} {m : Int} (h : m < 128 ^ (f + 1)) (hm : ¬ m < 128) : ∃ f', f = f' + 1 ∧ m / 128 < 128 ^ (f' + 1) := by
  cases f with
  | zero => exact absurd h (by simpa using hm)
  | succ f => exact ⟨f, rfl, Int.ediv_lt_of_lt_mul (by omega) (by rw [← Int.pow_succ]; exact h)⟩

end Go.Proofs.YtiopbdodegopdaaDoor
/- EncodeVarint: the program's and the reference's return the same plain function of the number. -/
namespace Go.Proofs.YtiopbdodegopdaaDoor
open Go.RowKit

end Go.Proofs.YtiopbdodegopdaaDoor
/- PackText, SealText, OpenText: the program's and the reference's return the same plain functions of the string. -/
namespace Go.Proofs.YtiopbdodegopdaaDoor
open Go.RowKit

theorem encF_len (f : Nat) (m : Int) : (encF f m).length ≤ f + 1 := by
  induction f generalizing m with
  | zero => simp [encF]
  | succ f ih => simp only [encF]; split
                 · simp
                 · have := ih (m / 128); simp; omega
theorem encV_len (n : Int) : (encV n).length ≤ 6 := by
  unfold encV; split
  · simp
  · exact encF_len 5 n
theorem encVar_size (n : Int) : (encVar n).size ≤ 6 := by
  exact encV_len n

def packT (s : ByteArray) : ByteArray := encVar s.size ++ s

/-! SealText -/
def sealHead (x : Int) : List UInt8 := [b8 (x % 256), b8 (x / 256 % 256), b8 (x / 65536 % 256), b8 (x / 16777216)]
def sealT (s : ByteArray) : ByteArray := ⟨(sealHead (cksum s)).toArray⟩ ++ s
theorem sealHead_impl (x : Int) : [b8 (x % 256), b8 (x % 65536 / 256), b8 (x / 65536 % 256), b8 (x / 65536 / 256)] = sealHead x := by
  unfold sealHead
  rw [show x % 65536 / 256 = x / 256 % 256 by omega, show x / 65536 / 256 = x / 16777216 by omega]

/-! OpenText -/
def openB (s : ByteArray) : Bool := decide (4 ≤ s.size) && ((sealT (s.extract 4 s.size)).toList == s.toList)
def openT (s : ByteArray) : ByteArray := if openB s = true then s.extract 4 s.size else ⟨#[]⟩
theorem openB_short {s : ByteArray} (h : s.size < 4) : openB s = false := by unfold openB; rw [decide_eq_false (by omega)]; rfl
theorem openB_of {s : ByteArray} (h : ¬ s.size < 4) : openB s = ((sealT (s.extract 4 s.size)).toList == s.toList) := by unfold openB; rw [decide_eq_true (by omega)]; rfl
theorem openT_no {s : ByteArray} (h : openB s = false) : openT s = ⟨#[]⟩ := by unfold openT; rw [h]; rfl
theorem openT_yes {s : ByteArray} (h : openB s = true) : openT s = s.extract 4 s.size := by unfold openT; rw [h]; rfl
theorem extract_le (s : ByteArray) (a b : Nat) : (s.extract a b).size ≤ s.size := by rw [ByteArray.size_extract]; omega

end Go.Proofs.YtiopbdodegopdaaDoor
/- Plain laws of numbers written to the base 128. No program. -/
namespace Go.Proofs.YtiopbdodegopdaaDoor
open Go.RowKit

/-- a number's value, the count of its bytes and the last of them -/
def dec : Nat → List UInt8 → Option (Int × Nat × UInt8)
  | 0, _ => none
  | _ + 1, [] => none
  | f + 1, c :: r => if c.toNat < 128 then some ((c.toNat : Int), 1, c) else (dec f r).map fun x => ((c.toNat : Int) % 128 + 128 * x.1, x.2.1 + 1, x.2.2)
def canon (x : Int × Nat × UInt8) : Bool := !((decide (x.2.2 = 0) && decide (1 < x.2.1)) || decide (1099511627775 < x.1))
def decV (l : List UInt8) : Int × Int × Bool := match dec 6 l with
  | none => (0, 0, false)
  | some x => if canon x = true then (x.1, (x.2.1 : Int), true) else (0, 0, false)
def decA (s : ByteArray) (p : Int) : Int × Int × Bool := if p < 0 then (0, 0, false) else decV (s.data.toList.drop p.toNat)

theorem dec_bd : ∀ (f : Nat) (l : List UInt8) (x : Int × Nat × UInt8), dec f l = some x → 0 ≤ x.1 ∧ x.1 < 128 ^ f ∧ 1 ≤ x.2.1 ∧ x.2.1 ≤ f ∧ x.2.1 ≤ l.length ∧ (x.2.2 ≠ 0 → 0 < x.1)
  | 0, l, x, h => by simp [dec] at h
  | f + 1, [], x, h => by simp [dec] at h
  | f + 1, c :: r, x, h => by
    have hc := c.toNat_lt
    have hp : (1 : Int) ≤ 128 ^ f := Int.pow_pos (by omega)
    simp only [dec] at h
    split at h
    · cases h
      refine ⟨by simp, ?_, by simp, by simp, by simp, fun hz => ?_⟩
      · simp only [Int.pow_succ]; omega
      · simp only
        have : c.toNat ≠ 0 := fun e => hz (UInt8.toNat_inj.1 e)
        omega
    · cases hd : dec f r with
      | none => rw [hd] at h; simp at h
      | some y =>
        rw [hd] at h
        simp only [Option.map_some, Option.some.injEq] at h
        subst h
        obtain ⟨h1, h2, h3, h4, h5, h6⟩ := dec_bd f r y hd
        refine ⟨by simp only; omega, ?_, by simp, by simp only; omega, by simp only [List.length_cons]; omega, fun hz => by have := h6 hz; simp only; omega⟩
        simp only [Int.pow_succ]; omega

/-- what is read is what was written -/
theorem dec_enc : ∀ (f : Nat) (n : Int) (r : List UInt8), 0 ≤ n → n < 128 ^ (f + 1) →
    ∃ z, dec (f + 1) (encF f n ++ r) = some (n, (encF f n).length, z) ∧ (n = 0 → (encF f n).length = 1) ∧ (0 < n → z ≠ 0) := by
  have one : ∀ (f : Nat) (n : Int) (r : List UInt8), 0 ≤ n → n < 128 → dec (f + 1) ([b8 n] ++ r) = some (n, 1, b8 n) ∧ (0 < n → b8 n ≠ 0) := by
    intro f n r h0 h
    have hb := b8_nat h0 (by omega : n < 256)
    refine ⟨?_, fun hp e => ?_⟩
    · show dec (f + 1) (b8 n :: r) = _
      simp only [dec]
      rw [if_pos (by omega), hb]
    · rw [e] at hb
      simp at hb
      omega
  intro f
  induction f with
  | zero =>
    intro n r h0 h
    obtain ⟨h1, h2⟩ := one 0 n r h0 (by simpa using h)
    exact ⟨b8 n, by simpa [encF] using h1, fun _ => rfl, h2⟩
  | succ f ih =>
    intro n r h0 h
    by_cases hn : n < 128
    · obtain ⟨h1, h2⟩ := one (f + 1) n r h0 hn
      rw [encF_lt hn]
      exact ⟨b8 n, by simpa using h1, fun _ => rfl, h2⟩
    · rw [encF_ge hn]
      obtain ⟨z, h1, h2, h3⟩ := ih (n / 128) r (by omega) (Int.ediv_lt_of_lt_mul (by omega) (by rw [← Int.pow_succ]; exact h))
      have hb := b8_nat (n := n % 128 + 128) (by omega) (by omega)
      refine ⟨z, ?_, fun e => by omega, fun _ => h3 (by omega)⟩
      show dec (f + 1 + 1) (b8 (n % 128 + 128) :: (encF f (n / 128) ++ r)) = _
      simp only [dec]
      rw [if_neg (by omega), h1]
      simp only [Option.map_some, List.length_cons, hb]
      congr 2
      omega

theorem decV_enc {n : Int} (h0 : 0 ≤ n) (h1 : n ≤ 1099511627775) (r : List UInt8) : decV (encV n ++ r) = (n, ((encV n).length : Int), true) := by
  have he : encV n = encF 5 n := if_neg (by omega)
  obtain ⟨z, h2, h3, h4⟩ := dec_enc 5 n r h0 (by omega)
  unfold decV
  rw [he, h2]
  have hc : canon (n, (encF 5 n).length, z) = true := by
    unfold canon
    simp only [Bool.not_eq_true', Bool.or_eq_false_iff, Bool.and_eq_false_iff, decide_eq_false_iff_not]
    refine ⟨?_, by omega⟩
    by_cases hn : n = 0
    · right; rw [h3 hn]; omega
    · left; exact h4 (by omega)
  simp only [hc, if_true]

/-- what is read, written again, is what was there -/
theorem enc_dec : ∀ (f : Nat) (l : List UInt8) (x : Int × Nat × UInt8), dec (f + 1) l = some x → (x.2.2 ≠ 0 ∨ x.2.1 = 1) → encF f x.1 = l.take x.2.1 := by
  have one : ∀ (f : Nat) (c : UInt8) (r : List UInt8), c.toNat < 128 → encF f (c.toNat : Int) = (c :: r).take 1 := by
    intro f c r h
    rw [encF_lt (by omega), b8_u8]
    rfl
  intro f
  induction f with
  | zero =>
    intro l x h hx
    cases l with
    | nil => simp [dec] at h
    | cons c r =>
      simp only [dec] at h
      split at h
      · cases h; exact one 0 c r (by assumption)
      · simp at h
  | succ f ih =>
    intro l x h hx
    cases l with
    | nil => simp [dec] at h
    | cons c r =>
      have hc := c.toNat_lt
      rw [dec] at h
      split at h
      · cases h; exact one (f + 1) c r (by assumption)
      · rename_i hge
        cases hd : dec (f + 1) r with
        | none => rw [hd] at h; simp at h
        | some y =>
          rw [hd] at h
          simp only [Option.map_some, Option.some.injEq] at h
          subst h
          obtain ⟨b1, _, b3, _, _, b6⟩ := dec_bd _ _ _ hd
          simp only at hx ⊢
          have hz : y.2.2 ≠ 0 := by
            rcases hx with hx | hx
            · exact hx
            · omega
          have hv := b6 hz
          rw [encF_ge (by omega), List.take_succ_cons, show ((c.toNat : Int) % 128 + 128 * y.1) / 128 = y.1 by omega, ih r y hd (.inl hz),
            show ((c.toNat : Int) % 128 + 128 * y.1) % 128 + 128 = (c.toNat : Int) by omega, b8_u8]

theorem decV_yes {l : List UInt8} {v k : Int} (h : decV l = (v, k, true)) : 0 ≤ v ∧ v ≤ 1099511627775 ∧ 1 ≤ k ∧ k ≤ 6 ∧ k ≤ l.length ∧ encV v = l.take k.toNat := by
  unfold decV at h
  cases hd : dec 6 l with
  | none => rw [hd] at h; simp at h
  | some x =>
    rw [hd] at h
    simp only at h
    by_cases hc : canon x = true
    · rw [if_pos hc] at h
      simp only [Prod.mk.injEq, and_true] at h
      obtain ⟨rfl, rfl⟩ := h
      obtain ⟨b1, b2, b3, b4, b5, b6⟩ := dec_bd _ _ _ hd
      unfold canon at hc
      simp only [Bool.not_eq_true', Bool.or_eq_false_iff, Bool.and_eq_false_iff, decide_eq_false_iff_not] at hc
      refine ⟨b1, by omega, by omega, by omega, by omega, ?_⟩
      have he : encV x.1 = encF 5 x.1 := if_neg (by omega)
      rw [he, enc_dec 5 l x hd (hc.1.elim .inl (fun h => .inr (by omega))), Int.toNat_natCast]
    · rw [if_neg hc] at h; simp at h
theorem decV_no {l : List UInt8} (h : (decV l).2.2 = false) : decV l = (0, 0, false) := by
  unfold decV at h ⊢
  cases hd : dec 6 l with
  | none => rfl
  | some x =>
    rw [hd] at h
    simp only at h ⊢
    by_cases hc : canon x = true
    · rw [if_pos hc] at h; simp at h
    · rw [if_neg hc]

/-- the reference asks whether the number, written again, is what was read: that is what 'canon' asks -/
theorem canon_iff {l : List UInt8} {x : Int × Nat × UInt8} (h : dec 6 l = some x) : canon x = true ↔ encV x.1 = l.take x.2.1 := by
  obtain ⟨b1, b2, b3, b4, b5, b6⟩ := dec_bd _ _ _ h
  constructor
  · intro hc
    have hv : decV l = (x.1, (x.2.1 : Int), true) := by unfold decV; rw [h]; simp only [hc, if_true]
    have := (decV_yes hv).2.2.2.2.2
    rwa [Int.toNat_natCast] at this
  · intro he
    by_cases hc : canon x = true
    · exact hc
    · exfalso
      by_cases hm : x.1 ≤ 1099511627775
      · have h1 := decV_enc b1 hm (l.drop x.2.1)
        rw [he, List.take_append_drop] at h1
        unfold decV at h1
        rw [h] at h1
        simp only [hc] at h1
        simp at h1
      · rw [encV_out (by omega)] at he
        have : (l.take x.2.1).length = 0 := by rw [← he]; rfl
        rw [List.length_take] at this
        omega
end Go.Proofs.YtiopbdodegopdaaDoor
/- DecodeVarint: the program's and the reference's return the same plain function of the string and the place. -/
namespace Go.Proofs.YtiopbdodegopdaaDoor
open Go.RowKit

/-- what is left to read after k bytes, the number so far being m -/
def decRel (L : List UInt8) (k : Nat) (m : Int) : Prop := dec 6 L = (dec (6 - k) (L.drop k)).map fun x => (m + 128 ^ k * x.1, k + x.2.1, x.2.2)
theorem decRel_0 (L : List UInt8) : decRel L 0 0 := by
  unfold decRel
  simp only [Nat.sub_zero, List.drop_zero, Int.pow_zero, Int.one_mul, Int.zero_add, Nat.zero_add]
  cases dec 6 L <;> rfl
theorem decRel_end {L : List UInt8} {k : Nat} {m : Int} (h : decRel L k m) (h' : 6 ≤ k ∨ L.length ≤ k) : decV L = (0, 0, false) := by
  unfold decRel at h
  have : dec (6 - k) (L.drop k) = none := by
    rcases h' with h' | h'
    · rw [show 6 - k = 0 by omega]; rfl
    · rw [List.drop_of_length_le h']; cases 6 - k <;> rfl
  unfold decV
  rw [h, this]
  rfl
theorem decRel_more {L : List UInt8} {k : Nat} {m : Int} {c : UInt8} (h : decRel L k m) (hk : k < 6) (hc : L[k]? = some c) (h1 : ¬ c.toNat < 128) : decRel L (k + 1) (m + (c.toNat : Int) % 128 * 2 ^ (7 * k)) := by
  unfold decRel at *
  obtain ⟨hl, he⟩ := List.getElem?_eq_some_iff.1 hc
  rw [h, List.drop_eq_getElem_cons hl, he, show 6 - k = (6 - (k + 1)) + 1 by omega]
  simp only [dec]
  rw [if_neg h1, Option.map_map]
  congr 1
  funext x
  simp only [Function.comp]
  have hp : (2 : Int) ^ (7 * k) = 128 ^ k := by rw [Int.pow_mul]; rfl
  rw [hp, Int.pow_succ]
  refine Prod.ext ?_ (Prod.ext ?_ rfl)
  · simp only
    rw [Int.mul_add, Int.mul_comm ((c.toNat : Int) % 128), Int.add_assoc, Int.mul_assoc]
  · simp only; omega
theorem decRel_last {L : List UInt8} {k : Nat} {m : Int} {c : UInt8} (h : decRel L k m) (hk : k < 6) (hc : L[k]? = some c) (h1 : c.toNat < 128) : dec 6 L = some (m + (c.toNat : Int) % 128 * 2 ^ (7 * k), k + 1, c) := by
  unfold decRel at *
  obtain ⟨hl, he⟩ := List.getElem?_eq_some_iff.1 hc
  rw [h, List.drop_eq_getElem_cons hl, he, show 6 - k = (6 - (k + 1)) + 1 by omega]
  simp only [dec]
  rw [if_pos h1]
  simp only [Option.map_some]
  have hp : (2 : Int) ^ (7 * k) = 128 ^ k := by rw [Int.pow_mul]; rfl
  rw [hp, Int.mul_comm ((c.toNat : Int) % 128), Int.emod_eq_of_lt (by omega) (by omega)]
theorem decV_some {L : List UInt8} {v : Int} {k : Nat} {c : UInt8} (h : dec 6 L = some (v, k, c)) (h1 : ¬ (c = 0 ∧ 1 < k)) (h2 : v ≤ 1099511627775) : decV L = (v, (k : Int), true) := by
  have hc : canon (v, k, c) = true := by
    unfold canon
    simp only [Bool.not_eq_true', Bool.or_eq_false_iff, Bool.and_eq_false_iff, decide_eq_false_iff_not]
    refine ⟨?_, by omega⟩
    by_cases hz : c = 0
    · right; exact fun hk => h1 ⟨hz, hk⟩
    · left; exact hz
  unfold decV; rw [h]; simp only [hc, if_true]
theorem decV_none {L : List UInt8} {v : Int} {k : Nat} {c : UInt8} (h : dec 6 L = some (v, k, c)) (h1 : (c = 0 ∧ 1 < k) ∨ 1099511627775 < v) : decV L = (0, 0, false) := by
  have hc : canon (v, k, c) = false := by
    unfold canon
    simp only [Bool.not_eq_false', Bool.or_eq_true, Bool.and_eq_true, decide_eq_true_eq]
    exact h1
  unfold decV; rw [h]; simp only [hc]; rfl
theorem decA_nat (s : ByteArray) (p : Nat) : decA s (p : Int) = decV (s.data.toList.drop p) := by unfold decA; rw [if_neg (by omega), Int.toNat_natCast]
theorem decA_neg {s : ByteArray} {p : Int} (h : p < 0) : decA s p = (0, 0, false) := if_pos h
theorem decA_far {s : ByteArray} {p : Nat} (h : s.size ≤ p) : decA s (p : Int) = (0, 0, false) := by
  rw [decA_nat, List.drop_of_length_le (by simpa using h)]; rfl
theorem pow7_bd {k : Nat} (hk : k < 6) {x : Int} (h0 : 0 ≤ x) (h1 : x ≤ 127) : 0 ≤ x * 2 ^ (7 * k) ∧ x * 2 ^ (7 * k) ≤ 4363686772736 := by
  have : (2 : Int) ^ (7 * k) ≤ 34359738368 ∧ (0 : Int) ≤ 2 ^ (7 * k) := by
    match k, hk with
    | 0, _ => decide
    | 1, _ => decide
    | 2, _ => decide
    | 3, _ => decide
    | 4, _ => decide
    | 5, _ => decide
  exact mul_bd h0 h1 this.2 this.1
theorem drop_at (s : ByteArray) (p k : Nat) (h : p + k < s.size) : (s.data.toList.drop p)[k]? = some (s[p + k]'h) := by
  rw [List.getElem?_drop, Array.getElem?_toList, Array.getElem?_eq_getElem (show p + k < s.data.size from h)]
  rfl

theorem u8_zero {c : UInt8} (h : ((c.toNat : Int) == 0) = true) : c = 0 := UInt8.toNat_inj.1 (by simp at h ⊢; omega)
theorem u8_nonzero {c : UInt8} (h : ((c.toNat : Int) == 0) = false) : c ≠ 0 := by rintro rfl; simp at h

theorem decRel_size {k : Nat} {m : Int} {c : UInt8} (hm : m < 2 ^ (7 * k)) : m + (c.toNat : Int) % 128 * 2 ^ (7 * k) < 2 ^ (7 * (k + 1)) := by
  have hp : (2 : Int) ^ (7 * (k + 1)) = 128 * 2 ^ (7 * k) := by rw [Nat.mul_add, Int.pow_add]; omega
  have hx : ((c.toNat : Int) % 128) * 2 ^ (7 * k) ≤ 127 * 2 ^ (7 * k) := Int.mul_le_mul_of_nonneg_right (by omega) (Int.pow_nonneg (by omega))
  omega
/-- the reference's test -/
theorem decV_same {s : ByteArray} {p k : Nat} {v : Int} {c : UInt8} (h : dec 6 (s.data.toList.drop p) = some (v, k + 1, c)) :
    ((encVar v).toList == (s.extract p (p + k + 1)).toList) = canon (v, k + 1, c) := by
  rw [Bool.eq_iff_iff, canon_iff h, beq_iff_eq, Lib.toList_data, Lib.toList_data, Lib.extract_data]
  rw [show p + k + 1 - p = k + 1 by omega]
  rfl
theorem decV_of {L : List UInt8} {v : Int} {k : Nat} {c : UInt8} (h : dec 6 L = some (v, k, c)) (hc : canon (v, k, c) = true) : decV L = (v, (k : Int), true) := by unfold decV; rw [h]; simp only [hc, if_true]
theorem decV_not {L : List UInt8} {v : Int} {k : Nat} {c : UInt8} (h : dec 6 L = some (v, k, c)) (hc : canon (v, k, c) = false) : decV L = (0, 0, false) := by unfold decV; rw [h]; simp only [hc]; rfl

end Go.Proofs.YtiopbdodegopdaaDoor
/- UnpackText: the program's and the reference's return the same plain function of the string and the place. -/
namespace Go.Proofs.YtiopbdodegopdaaDoor
open Go.RowKit

theorem decV_cases (l : List UInt8) : decV l = (0, 0, false) ∨ ∃ v k : Nat, decV l = ((v : Int), (k : Int), true) ∧ v ≤ 1099511627775 ∧ 1 ≤ k ∧ k ≤ 6 ∧ k ≤ l.length ∧ encV (v : Int) = l.take k := by
  cases h : (decV l).2.2
  · exact .inl (decV_no h)
  · have e : decV l = ((decV l).1, (decV l).2.1, true) := by rw [← h]
    obtain ⟨h1, h2, h3, h4, h5, h6⟩ := decV_yes e
    obtain ⟨v, hv⟩ := Int.eq_ofNat_of_zero_le h1
    obtain ⟨k, hk⟩ := Int.eq_ofNat_of_zero_le (show 0 ≤ (decV l).2.1 by omega)
    rw [hv, hk] at e
    rw [hv] at h2 h6
    rw [hk] at h3 h4 h5 h6
    exact .inr ⟨v, k, e, by omega, by omega, by omega, by omega, by rw [h6, Int.toNat_natCast]⟩
theorem decA_cases (s : ByteArray) (p : Int) : decA s p = (0, 0, false) ∨ ∃ q v k : Nat, p = (q : Int) ∧ decA s p = ((v : Int), (k : Int), true) ∧ v ≤ 1099511627775 ∧ 1 ≤ k ∧ k ≤ 6 ∧ q + k ≤ s.size ∧ encV (v : Int) = (s.data.toList.drop q).take k := by
  by_cases h0 : p < 0
  · exact .inl (decA_neg h0)
  obtain ⟨q, rfl⟩ := Int.eq_ofNat_of_zero_le (show 0 ≤ p by omega)
  rw [decA_nat]
  rcases decV_cases (s.data.toList.drop q) with h | ⟨v, k, h1, h2, h3, h4, h5, h6⟩
  · exact .inl h
  · rw [List.length_drop] at h5
    have : s.data.toList.length = s.size := by simp
    exact .inr ⟨q, v, k, rfl, h1, h2, h3, h4, by omega, h6⟩

def unpA (s : ByteArray) (p : Int) : ByteArray × Int × Bool :=
  if (decA s p).2.2 = true ∧ (decA s p).1 ≤ (s.size : Int) - p - (decA s p).2.1 then (s.extract (p + (decA s p).2.1).toNat (p + (decA s p).2.1 + (decA s p).1).toNat, (decA s p).2.1 + (decA s p).1, true) else (⟨#[]⟩, 0, false)
theorem unpA_no {s : ByteArray} {p : Int} (h : decA s p = (0, 0, false)) : unpA s p = (⟨#[]⟩, 0, false) := by unfold unpA; rw [h]; rfl
theorem unpA_big {s : ByteArray} {q v k : Nat} (h : decA s (q : Int) = ((v : Int), (k : Int), true)) (h1 : (s.size : Int) - q - k < v) : unpA s (q : Int) = (⟨#[]⟩, 0, false) := by
  unfold unpA; rw [h]; exact if_neg (fun h2 => by have := h2.2; simp only at this; omega)
theorem unpA_yes {s : ByteArray} {q v k : Nat} (h : decA s (q : Int) = ((v : Int), (k : Int), true)) (h1 : (v : Int) ≤ (s.size : Int) - q - k) : unpA s (q : Int) = (s.extract (q + k) (q + k + v), (k : Int) + v, true) := by
  unfold unpA; rw [h]; exact (if_pos ⟨rfl, h1⟩).trans (by simp only; congr 2 <;> omega)

end Go.Proofs.YtiopbdodegopdaaDoor
/- Lists of whole numbers as bytes, and runs of equal inputs: the plain functions. No program. -/
namespace Go.Proofs.YtiopbdodegopdaaDoor
open Go.RowKit

def encsL : List Int → List UInt8
  | [] => []
  | x :: r => encV (signless x) ++ encsL r
theorem encsL_append (l r : List Int) : encsL (l ++ r) = encsL l ++ encsL r := by
  induction l with
  | nil => rfl
  | cons x l ih => simp only [List.cons_append, encsL, ih, List.append_assoc]
theorem encsL_len (l : List Int) : (encsL l).length ≤ 6 * l.length := by
  induction l with
  | nil => simp [encsL]
  | cons x l ih =>
    have := encV_len (signless x)
    simp only [encsL, List.length_append, List.length_cons]
    omega
theorem encsL_succ {l : List Int} {k : Nat} (h : k < l.length) : encsL (l.take (k + 1)) = encsL (l.take k) ++ encV (signless (l[k]'h)) := by
  rw [List.take_add_one, List.getElem?_eq_getElem h, encsL_append]
  simp [encsL]
def okS (l : List Int) : Bool := l.all fun x => decide (0 ≤ signless x)
theorem okS_no {l : List Int} {k : Nat} {h : k < l.length} (hx : signless (l[k]'h) < 0) : okS l = false := by
  refine List.all_eq_false.2 ⟨l[k]'h, List.getElem_mem h, ?_⟩
  simp
  omega
theorem okS_yes {l : List Int} (h : ∀ j (hj : j < l.length), 0 ≤ signless (l[j]'hj)) : okS l = true := by
  refine List.all_eq_true.2 fun x hx => ?_
  obtain ⟨j, hj, rfl⟩ := List.getElem_of_mem hx
  simpa using h j hj
def pkI (l : List Int) : List UInt8 := if okS l = true then encV (l.length : Nat) ++ encsL l else []
def packI (l : List Int) : ByteArray := ⟨(pkI l).toArray⟩
theorem packI_no {l : List Int} (h : okS l = false) : packI l = ⟨#[]⟩ := by unfold packI pkI; rw [h]; rfl
theorem packI_yes {l : List Int} (h : okS l = true) : packI l = ⟨(encV (l.length : Nat) ++ encsL l).toArray⟩ := by unfold packI pkI; rw [h]; rfl

theorem signed_signless {x : Int} (h : 0 ≤ signless x) : signed (signless x) = x := by
  unfold signless at h ⊢
  split at h
  · omega
  · rename_i h1
    rw [if_neg h1]
    by_cases h2 : 0 ≤ x
    · rw [if_pos h2, signed_even (by omega) (by omega) (by omega)]; omega
    · rw [if_neg h2, signed_odd (by omega) (by omega) (by omega)]; omega

/-- n numbers, read one behind the other: the list, and how many bytes it took -/
def rdI : Nat → List UInt8 → Option (List Int × Nat)
  | 0, _ => some ([], 0)
  | n + 1, L => if (decV L).2.2 = true then (rdI n (L.drop (decV L).2.1.toNat)).map fun x => (signed (decV L).1 :: x.1, (decV L).2.1.toNat + x.2) else none
theorem rdI_no {n : Nat} {L : List UInt8} (h : decV L = (0, 0, false)) : rdI (n + 1) L = none := by
  rw [rdI, h]; rfl
theorem rdI_yes {n v k : Nat} {L : List UInt8} (h : decV L = ((v : Int), (k : Int), true)) : rdI (n + 1) L = (rdI n (L.drop k)).map fun x => (signed (v : Int) :: x.1, k + x.2) := by
  rw [rdI, h]; simp
theorem rdI_len : ∀ {n : Nat} {L : List UInt8} {x : List Int × Nat}, rdI n L = some x → n ≤ x.2 ∧ x.2 ≤ L.length ∧ x.1.length = n
  | 0, L, x, h => by simp only [rdI, Option.some.injEq] at h; subst h; simp
  | n + 1, L, x, h => by
    rcases decV_cases L with hd | ⟨v, k, hd, _, h1, _, h2, _⟩
    · rw [rdI_no hd] at h; simp at h
    · rw [rdI_yes hd] at h
      cases hr : rdI n (L.drop k) with
      | none => rw [hr] at h; simp at h
      | some y =>
        rw [hr] at h
        simp only [Option.map_some, Option.some.injEq] at h
        subst h
        obtain ⟨a1, a2, a3⟩ := rdI_len hr
        rw [List.length_drop] at a2
        simp only [List.length_cons]
        omega
theorem rdI_big {n : Nat} {L : List UInt8} (h : L.length < n) : rdI n L = none := by
  cases hr : rdI n L with
  | none => rfl
  | some x => have := rdI_len hr; omega
/-- after k numbers of c, p bytes, the list so far being l -/
def rdRel (c : Nat) (L : List UInt8) (k : Nat) (l : List Int) (p : Nat) : Prop := rdI c L = (rdI (c - k) (L.drop p)).map fun x => (l ++ x.1, p + x.2)
theorem rdRel_0 (c : Nat) (L : List UInt8) : rdRel c L 0 [] 0 := by
  unfold rdRel
  simp only [Nat.sub_zero, List.drop_zero, List.nil_append, Nat.zero_add]
  cases rdI c L <;> rfl
theorem rdRel_more {c : Nat} {L : List UInt8} {k p v m : Nat} {l : List Int} (h : rdRel c L k l p) (hk : k < c) (hd : decV (L.drop p) = ((v : Int), (m : Int), true)) : rdRel c L (k + 1) (l ++ [signed (v : Int)]) (p + m) := by
  unfold rdRel at *
  rw [h, show c - k = (c - (k + 1)) + 1 by omega, rdI_yes hd, Option.map_map, List.drop_drop]
  congr 1
  funext x
  simp [Nat.add_assoc]
theorem rdRel_fail {c : Nat} {L : List UInt8} {k p : Nat} {l : List Int} (h : rdRel c L k l p) (hk : k < c) (hd : decV (L.drop p) = (0, 0, false)) : rdI c L = none := by
  unfold rdRel at h
  rw [h, show c - k = (c - (k + 1)) + 1 by omega, rdI_no hd]
  rfl
theorem rdRel_end {c : Nat} {L : List UInt8} {p : Nat} {l : List Int} (h : rdRel c L c l p) : rdI c L = some (l, p) := by
  unfold rdRel at h
  rw [h, Nat.sub_self]
  simp [rdI]
theorem rdI_encs : ∀ (l : List Int) (r : List UInt8), okS l = true → rdI l.length (encsL l ++ r) = some (l, (encsL l).length)
  | [], r, _ => rfl
  | x :: l, r, h => by
    simp only [okS, List.all_cons, Bool.and_eq_true, decide_eq_true_eq] at h
    obtain ⟨h1, h2⟩ := h
    have hb := signless_bd x
    obtain ⟨v, hv⟩ := Int.eq_ofNat_of_zero_le h1
    have hd := decV_enc h1 hb.2 (encsL l ++ r)
    rw [hv] at hd
    simp only [encsL, List.length_cons, List.append_assoc]
    rw [hv, rdI_yes hd, List.drop_left, rdI_encs l r h2, ← hv, signed_signless h1]
    simp

def unpI (s : ByteArray) (p : Int) : List Int × Int × Bool :=
  if (decA s p).2.2 = true then (match rdI (decA s p).1.toNat (s.data.toList.drop (p + (decA s p).2.1).toNat) with
    | none => ([], 0, false)
    | some x => (x.1, (decA s p).2.1 + x.2, true)) else ([], 0, false)
theorem unpI_no {s : ByteArray} {p : Int} (h : decA s p = (0, 0, false)) : unpI s p = ([], 0, false) := by unfold unpI; rw [h]; rfl
theorem unpI_at {s : ByteArray} {q v k : Nat} (h : decA s (q : Int) = ((v : Int), (k : Int), true)) : unpI s (q : Int) = (match rdI v (s.data.toList.drop (q + k)) with
    | none => ([], 0, false)
    | some x => (x.1, (k : Int) + x.2, true)) := by
  unfold unpI
  rw [h]
  simp only [if_true]
  rw [Int.toNat_natCast, show ((q : Int) + (k : Int)).toNat = q + k by omega]
theorem unpI_none {s : ByteArray} {q v k : Nat} (h : decA s (q : Int) = ((v : Int), (k : Int), true)) (hr : rdI v (s.data.toList.drop (q + k)) = none) : unpI s (q : Int) = ([], 0, false) := by rw [unpI_at h, hr]
theorem unpI_some {s : ByteArray} {q v k m : Nat} {l : List Int} (h : decA s (q : Int) = ((v : Int), (k : Int), true)) (hr : rdI v (s.data.toList.drop (q + k)) = some (l, m)) : unpI s (q : Int) = (l, (k : Int) + m, true) := by rw [unpI_at h, hr]

/-! inputs -/
def okIn (l : List Int) : Bool := l.all fun x => inB x 0 15
theorem okIn_no {l : List Int} {k : Nat} {h : k < l.length} (hx : inB (l[k]'h) 0 15 = false) : okIn l = false := List.all_eq_false.2 ⟨l[k]'h, List.getElem_mem h, by simpa using hx⟩
theorem okIn_yes {l : List Int} (h : ∀ j (hj : j < l.length), inB (l[j]'hj) 0 15 = true) : okIn l = true := by
  refine List.all_eq_true.2 fun x hx => ?_
  obtain ⟨j, hj, rfl⟩ := List.getElem_of_mem hx
  exact h j hj
theorem okIn_at {l : List Int} (h : okIn l = true) {k : Nat} (hk : k < l.length) : 0 ≤ l[k]'hk ∧ l[k]'hk ≤ 15 := inB_iff.1 (List.all_eq_true.1 h _ (List.getElem_mem hk))

/-- how many of the list's first elements equal its first -/
def rn : List Int → Nat
  | [] => 0
  | x :: r => 1 + (r.takeWhile (fun y => y == x)).length
theorem tw_le (p : Int → Bool) (L : List Int) : (L.takeWhile p).length ≤ L.length := (List.takeWhile_sublist p).length_le
theorem tw_more {p : Int → Bool} : ∀ {L : List Int} {j : Nat} {c : Int}, j ≤ (L.takeWhile p).length → L[j]? = some c → p c = true → j + 1 ≤ (L.takeWhile p).length
  | [], j, c, _, h, _ => by simp at h
  | a :: r, 0, c, _, h, hp => by
    simp only [List.getElem?_cons_zero, Option.some.injEq] at h
    subst h
    rw [List.takeWhile_cons_of_pos hp]
    simp
  | a :: r, j + 1, c, hj, h, hp => by
    by_cases ha : p a = true
    · rw [List.takeWhile_cons_of_pos ha, List.length_cons] at hj ⊢
      have := tw_more (L := r) (j := j) (c := c) (by omega) (by simpa using h) hp
      omega
    · rw [List.takeWhile_cons_of_neg ha] at hj
      simp at hj
theorem tw_stop {p : Int → Bool} : ∀ {L : List Int} {j : Nat}, j ≤ (L.takeWhile p).length → (∀ c, L[j]? = some c → p c = false) → j = (L.takeWhile p).length
  | [], j, hj, _ => by simp at hj ⊢; exact hj
  | a :: r, 0, _, h => by
    have ha := h a rfl
    rw [List.takeWhile_cons_of_neg (by simp [ha])]
    rfl
  | a :: r, j + 1, hj, h => by
    by_cases ha : p a = true
    · rw [List.takeWhile_cons_of_pos ha, List.length_cons] at hj ⊢
      have := tw_stop (p := p) (L := r) (j := j) (by omega) (fun c hc => h c (by simpa using hc))
      omega
    · rw [List.takeWhile_cons_of_neg ha] at hj
      simp at hj
theorem rn_le (L : List Int) : rn L ≤ L.length := by
  cases L with
  | nil => exact Nat.le_refl _
  | cons x r =>
    have := tw_le (fun y => y == x) r
    simp only [rn, List.length_cons]
    omega
theorem rn_one {L : List Int} (h : L ≠ []) : 1 ≤ rn L := by
  cases L with
  | nil => exact absurd rfl h
  | cons x r => simp only [rn]; omega
theorem rn_more {L : List Int} {j : Nat} {h0 : 0 < L.length} {hj : j < L.length} (h : j ≤ rn L) (h1 : 1 ≤ j) (he : L[j]'hj = L[0]'h0) : j + 1 ≤ rn L := by
  cases L with
  | nil => simp at h0
  | cons x r =>
    obtain ⟨i, rfl⟩ : ∃ i, j = i + 1 := ⟨j - 1, by omega⟩
    simp only [List.getElem_cons_succ, List.getElem_cons_zero] at he
    simp only [rn, List.length_cons] at h hj ⊢
    have := tw_more (p := fun y => y == x) (L := r) (j := i) (c := r[i]'(by omega)) (by omega) (List.getElem?_eq_getElem (by omega)) (by simp [he])
    omega
theorem rn_stop {L : List Int} {j : Nat} {h0 : 0 < L.length} (h : j ≤ rn L) (h1 : 1 ≤ j) (he : ∀ hj : j < L.length, ¬ L[j]'hj = L[0]'h0) : j = rn L := by
  cases L with
  | nil => simp at h0
  | cons x r =>
    obtain ⟨i, rfl⟩ : ∃ i, j = i + 1 := ⟨j - 1, by omega⟩
    simp only [List.getElem_cons_succ, List.getElem_cons_zero] at he
    simp only [rn, List.length_cons] at h he ⊢
    have := tw_stop (p := fun y => y == x) (L := r) (j := i) (by omega) (fun c hc => by
      obtain ⟨hi, rfl⟩ := List.getElem?_eq_some_iff.1 hc
      simpa using he (by omega))
    omega
def tkF : Nat → List Int → List UInt8
  | 0, _ => []
  | _ + 1, [] => []
  | f + 1, x :: r => encV (x + 16 * (rn (x :: r) : Nat)) ++ tkF f ((x :: r).drop (rn (x :: r)))
def tk (L : List Int) : List UInt8 := tkF L.length L
theorem tkF_nil (f : Nat) : tkF f [] = [] := by cases f <;> rfl
theorem tkF_fuel : ∀ (f g : Nat) (L : List Int), L.length ≤ f → L.length ≤ g → tkF f L = tkF g L
  | f, g, [], _, _ => by rw [tkF_nil, tkF_nil]
  | 0, _, _ :: _, h, _ => by simp at h
  | _ + 1, 0, _ :: _, _, h => by simp at h
  | f + 1, g + 1, x :: r, hf, hg => by
    have h1 := rn_one (L := x :: r) (by simp)
    simp only [List.length_cons] at hf hg
    simp only [tkF]
    rw [tkF_fuel f g _ (by rw [List.length_drop, List.length_cons]; omega) (by rw [List.length_drop, List.length_cons]; omega)]
theorem tk_nil : tk [] = [] := rfl
theorem tk_step {L : List Int} (h : 0 < L.length) : tk L = encV (L[0]'h + 16 * (rn L : Nat)) ++ tk (L.drop (rn L)) := by
  cases L with
  | nil => simp at h
  | cons x r =>
    have h1 := rn_one (L := x :: r) (by simp)
    unfold tk
    rw [List.length_cons]
    simp only [tkF, List.getElem_cons_zero]
    rw [tkF_fuel r.length ((x :: r).drop (rn (x :: r))).length _ (by rw [List.length_drop, List.length_cons]; omega) (Nat.le_refl _)]
theorem tk_next {l : List Int} {k : Nat} {t : List UInt8} (h : tk l = t ++ tk (l.drop k)) (hk : k < l.length) : tk l = (t ++ encV (l[k]'hk + 16 * (rn (l.drop k) : Nat))) ++ tk (l.drop (k + rn (l.drop k))) := by
  rw [h, tk_step (L := l.drop k) (by rw [List.length_drop]; omega), List.drop_drop, List.append_assoc]
  simp
def okT (l : List Int) : Bool := decide (l.length ≤ 400) && okIn l
def trkT (l : List Int) : ByteArray := if okT l = true then ⟨(tk l).toArray⟩ else ⟨#[]⟩
def scrT (l : List Int) (d t : Int) : Int :=
  if 1 ≤ l.length ∧ okT l = true ∧ 0 ≤ d ∧ d ≤ 5 ∧ 0 ≤ t then (if t < d then 0 else l.getD ((t - d) % (l.length : Int)).toNat 0) else -1
end Go.Proofs.YtiopbdodegopdaaDoor
/- Slices of whole numbers: made, copied (toIntS), compared (eqIntS), marked (markIntS) and read again (heldIntS). -/
namespace Go.Proofs.YtiopbdodegopdaaDoor
open Go.RowKit

section
variable {ops : Array Oper} {rest : List Oper} {o : Oper} {a : Act} {Q : Exit → Act → World → Prop}
theorem info_int : (Tryd.prog.info? 3).map (fun i => (i.zero, i.size, i.bytes)) = some (some (.int .i64 0), 1, 8) := by kernel_rfl
/-- 'make([]int, n)' -/
theorem make_int (w : World) (hgd : o.guard = none) (l c : Operand) (ho : o.op = Op.makeSlice 37 l c) (base n : Nat) (hl : a.eval l = .int .i64 (n : Int)) (hc : a.eval c = .int .i64 (n : Int)) (hn : n ≤ 1099511627776) (hbase : base ≤ w.heap.size)
    (hK : ∀ w', Own w' base 1 (.slice (some ⟨w.heap.size, 0, none⟩) n n) n ((List.replicate n (0 : Int)).map (Value.int .i64)) → w.grownBy w' none → wpList Tryd.prog ops Q rest (a.put o.dst (.slice (some ⟨w.heap.size, 0, none⟩) n n)) w') :
    wpList Tryd.prog ops Q (o :: rest) a w := by
  obtain ⟨i0, hi, hz0, hz1, hz2⟩ := info_parts info_int
  exact wpList_make_row (P := Tryd.prog) w hgd l c 37 ho 3 i0 (.int .i64 0) Tryd.underlying37 hi hz0 hz1 rfl .i64 .i64 n hl hc (by rw [hz2]; omega) (by omega)
    (hK _ (Own.lit 3 ((toList_madeCells_one _ n).trans (by rw [List.map_replicate])) (by simp) hbase (by unfold maxLen; omega)) (World.grownBy_alloc w _ _))
/-- 'make([]byte, n)' -/
theorem make_u8 (w : World) (hgd : o.guard = none) (l c : Operand) (ho : o.op = Op.makeSlice 22 l c) (base n : Nat) (hl : a.eval l = .int .i64 (n : Int)) (hc : a.eval c = .int .i64 (n : Int)) (hn : n ≤ 1099511627776) (hbase : base ≤ w.heap.size)
    (hK : ∀ w', Own w' base 1 (.slice (some ⟨w.heap.size, 0, none⟩) n n) n (u8s (List.replicate n (0 : UInt8))) → w.grownBy w' none → wpList Tryd.prog ops Q rest (a.put o.dst (.slice (some ⟨w.heap.size, 0, none⟩) n n)) w') :
    wpList Tryd.prog ops Q (o :: rest) a w := by
  obtain ⟨i0, hi, hz0, hz1, hz2⟩ := info_parts info_u8
  exact wpList_make_row (P := Tryd.prog) w hgd l c 22 ho 5 i0 (.int .u8 0) Tryd.underlying22 hi hz0 hz1 rfl .i64 .i64 n hl hc (by rw [hz2]; omega) (by omega)
    (hK _ (Own.lit 5 ((toList_madeCells_one _ n).trans (by unfold u8s; rw [List.map_replicate]; rfl)) (by rw [u8s_len]; simp) hbase (by unfold maxLen; omega)) (World.grownBy_alloc w _ _))
end

theorem ints_at {l : List Int} {k : Nat} (h : k < l.length) : (l.map (Value.int .i64))[k]? = some (.int .i64 (l[k]'h)) := by rw [List.getElem?_map, List.getElem?_eq_getElem h]; rfl
/-- what has been copied after k steps -/
def setTo (l : List Int) (k : Nat) : List Int := l.take k ++ List.replicate (l.length - k) 0
theorem setTo_len {l : List Int} {k : Nat} (h : k ≤ l.length) : (setTo l k).length = l.length := by unfold setTo; rw [List.length_append, List.length_take, List.length_replicate]; omega
theorem setTo_0 (l : List Int) : setTo l 0 = List.replicate l.length 0 := by simp [setTo]
theorem setTo_end (l : List Int) : setTo l l.length = l := by simp [setTo]
theorem setTo_at {l : List Int} {k : Nat} (h : k < l.length) : (setTo l k)[k]? = some 0 := by
  unfold setTo
  rw [List.getElem?_append_right (by rw [List.length_take]; omega), List.getElem?_replicate, List.length_take, if_pos (by omega)]
theorem setTo_succ {l : List Int} {k : Nat} (h : k < l.length) : setTo l (k + 1) = (setTo l k).set k (l[k]'h) := by
  apply List.ext_getElem?
  intro j
  by_cases e : j = k
  · subst e
    rw [List.getElem?_set_self (by rw [setTo_len (by omega)]; exact h)]
    unfold setTo
    rw [List.getElem?_append_left (by rw [List.length_take]; omega), List.getElem?_take, if_pos (by omega), List.getElem?_eq_getElem h]
  · rw [List.getElem?_set_ne (Ne.symm e)]
    unfold setTo
    by_cases hj : j < k
    · rw [List.getElem?_append_left (by rw [List.length_take]; omega), List.getElem?_append_left (by rw [List.length_take]; omega), List.getElem?_take, List.getElem?_take, if_pos (by omega), if_pos (by omega)]
    · rw [List.getElem?_append_right (by rw [List.length_take]; omega), List.getElem?_append_right (by rw [List.length_take]; omega), List.getElem?_replicate, List.getElem?_replicate, List.length_take, List.length_take]
      by_cases h2 : j < l.length
      · rw [if_pos (by omega), if_pos (by omega)]
      · rw [if_neg (by omega), if_neg (by omega)]
theorem grownBy_self (w : World) (row : Option Nat) : w.grownBy w row := ⟨rfl, rfl, rfl, Nat.le_refl _, fun _ _ _ => rfl⟩
/-- the marks: k0, k0 + 1, .. -/
def marks (k0 : Int) (n : Nat) : List Int := (List.range n).map fun (j : Nat) => k0 + (j : Int)
theorem marks_len (k0 : Int) (n : Nat) : (marks k0 n).length = n := by simp [marks]
theorem marks_at (k0 : Int) {n j : Nat} (h : j < (marks k0 n).length) : (marks k0 n)[j]'h = k0 + j := by simp [marks]
def markTo (k0 : Int) (l : List Int) (k : Nat) : List Int := marks k0 k ++ l.drop k
theorem markTo_len {k0 : Int} {l : List Int} {k : Nat} (h : k ≤ l.length) : (markTo k0 l k).length = l.length := by unfold markTo; rw [List.length_append, List.length_drop, marks_len]; omega
theorem markTo_at {k0 : Int} {l : List Int} {k : Nat} (h : k < l.length) : (markTo k0 l k)[k]? = some (l[k]'h) := by
  unfold markTo
  rw [List.getElem?_append_right (by rw [marks_len]; omega), marks_len, List.getElem?_drop, show k + (k - k) = k by omega, List.getElem?_eq_getElem h]
theorem markTo_succ {k0 : Int} {l : List Int} {k : Nat} (h : k < l.length) : markTo k0 l (k + 1) = (markTo k0 l k).set k (k0 + k) := by
  unfold markTo
  rw [List.set_append_right _ _ (by rw [marks_len]; omega), marks_len, Nat.sub_self, List.drop_eq_getElem_cons h, List.set_cons_zero]
  simp [marks, List.range_succ]
theorem markTo_end (k0 : Int) (l : List Int) : markTo k0 l l.length = marks k0 l.length := by simp [markTo]
end Go.Proofs.YtiopbdodegopdaaDoor
/- ScriptInput: the program's and the reference's return the same plain function; how a readable slice is carried along. -/
namespace Go.Proofs.YtiopbdodegopdaaDoor
open Go.RowKit

theorem At.below {w w' : World} {sz : Nat} {v : Value} {n : Nat} {cs : List Value} (h : At w sz v n cs) (hb : Below w.heap.size w w') : At w' sz v n cs := by
  obtain ⟨hl, ao, cap, rfl, hn, hm, hc⟩ := h
  refine ⟨hl, ao, cap, rfl, hn, hm, fun h0 => ?_⟩
  obtain ⟨g, off, rfl, hg, hc⟩ := hc h0
  exact ⟨g, off, rfl, Nat.lt_of_lt_of_le hg hb.size, fun j hj => (hb.cell hg).trans (hc j hj)⟩
theorem below_drewN {B : Nat} {a w : World} (h : Below B a w) (k : Nat) : Below B a (w.drewN k) := ⟨h.os, h.tape, h.output, h.size, h.block⟩
def scrOk (l : List Int) : Bool := decide (1 ≤ l.length) && okT l
theorem scrT_bad {l : List Int} {d t : Int} (h : scrOk l = false ∨ inB d 0 5 = false ∨ t < 0) : scrT l d t = -1 := by
  unfold scrT
  refine if_neg fun ⟨h1, h2, h3, h4, h5⟩ => ?_
  rcases h with h | h | h
  · unfold scrOk at h
    rw [decide_eq_true h1, h2] at h
    cases h
  · rw [inB_yes h3 h4] at h
    cases h
  · omega
theorem scrOk_len {l : List Int} (h : scrOk l = true) : 1 ≤ l.length ∧ l.length ≤ 400 ∧ okIn l = true := by
  unfold scrOk okT at h
  simp only [Bool.and_eq_true, decide_eq_true_eq] at h
  exact ⟨h.1, h.2.1, h.2.2⟩
theorem scrT_ok {l : List Int} {d t : Int} (h : scrOk l = true) (hd : inB d 0 5 = true) (ht : 0 ≤ t) : scrT l d t = if t < d then 0 else l.getD ((t - d) % (l.length : Int)).toNat 0 := by
  have h' := h
  unfold scrOk at h'
  simp only [Bool.and_eq_true, decide_eq_true_eq] at h'
  obtain ⟨h3, h4⟩ := inB_iff.1 hd
  unfold scrT
  exact if_pos ⟨h'.1, h'.2, h3, h4, ht⟩
theorem scrOk_of {l : List Int} (h1 : 1 ≤ l.length) (h2 : l.length ≤ 400) (h3 : okIn l = true) : scrOk l = true := by
  unfold scrOk okT
  rw [decide_eq_true h1, decide_eq_true h2, h3]
  rfl
theorem scrOk_no {l : List Int} (h : inB (l.length : Int) 1 400 = false ∨ okIn l = false) : scrOk l = false := by
  cases hs : scrOk l
  · rfl
  · obtain ⟨h1, h2, h3⟩ := scrOk_len hs
    rcases h with h | h
    · rw [inB_yes (by omega) (by omega)] at h; cases h
    · rw [h3] at h; cases h
end Go.Proofs.YtiopbdodegopdaaDoor
/- Runs of zeros: the plain functions. No program. -/
namespace Go.Proofs.YtiopbdodegopdaaDoor
open Go.RowKit

def isZ (c : UInt8) : Bool := c == 0
def notZ (c : UInt8) : Bool := !(c == 0)
def run (p : UInt8 → Bool) (L : List UInt8) : Nat := (L.takeWhile p).length
theorem run_le (p : UInt8 → Bool) (L : List UInt8) : run p L ≤ L.length := by unfold run; exact (List.takeWhile_sublist p).length_le
theorem run_more {p : UInt8 → Bool} : ∀ {L : List UInt8} {j : Nat} {c : UInt8}, j ≤ run p L → L[j]? = some c → p c = true → j + 1 ≤ run p L
  | [], j, c, _, h, _ => by simp at h
  | a :: r, 0, c, _, h, hp => by
    simp only [List.getElem?_cons_zero, Option.some.injEq] at h
    subst h
    unfold run
    rw [List.takeWhile_cons_of_pos hp]
    simp
  | a :: r, j + 1, c, hj, h, hp => by
    unfold run at hj ⊢
    by_cases ha : p a = true
    · rw [List.takeWhile_cons_of_pos ha, List.length_cons] at hj ⊢
      have := run_more (L := r) (j := j) (c := c) (by unfold run; omega) (by simpa using h) hp
      unfold run at this
      omega
    · rw [List.takeWhile_cons_of_neg ha] at hj
      simp at hj
theorem run_stop {p : UInt8 → Bool} : ∀ {L : List UInt8} {j : Nat}, j ≤ run p L → (∀ c, L[j]? = some c → p c = false) → j = run p L
  | [], j, hj, _ => by simp [run] at hj ⊢; exact hj
  | a :: r, 0, _, h => by
    have ha := h a rfl
    unfold run
    rw [List.takeWhile_cons_of_neg (by simp [ha])]
    rfl
  | a :: r, j + 1, hj, h => by
    unfold run at hj ⊢
    by_cases ha : p a = true
    · rw [List.takeWhile_cons_of_pos ha, List.length_cons] at hj ⊢
      have := run_stop (p := p) (L := r) (j := j) (by unfold run; omega) (fun c hc => h c (by simpa using hc))
      unfold run at this
      omega
    · rw [List.takeWhile_cons_of_neg ha] at hj
      simp at hj
theorem take_run (p : UInt8 → Bool) (L : List UInt8) : L.take (run p L) = L.takeWhile p := by
  unfold run
  induction L with
  | nil => rfl
  | cons a r ih =>
    by_cases ha : p a = true
    · rw [List.takeWhile_cons_of_pos ha, List.length_cons, List.take_succ_cons, ih]
    · rw [List.takeWhile_cons_of_neg ha]; rfl
/-- the zeros at the head, what is behind them, and what is behind that -/
def zs (L : List UInt8) : Nat := run isZ L
def os (L : List UInt8) : Nat := run notZ (L.drop (zs L))
def oth (L : List UInt8) : List UInt8 := (L.drop (zs L)).take (os L)
def rst (L : List UInt8) : List UInt8 := L.drop (zs L + os L)
theorem one_of (L : List UInt8) (h : L ≠ []) : 1 ≤ zs L + os L := by
  cases L with
  | nil => exact absurd rfl h
  | cons a r =>
    by_cases ha : isZ a = true
    · have : 0 + 1 ≤ zs (a :: r) := run_more (Nat.zero_le _) rfl ha
      omega
    · have h0 : (0 : Nat) = zs (a :: r) := run_stop (p := isZ) (Nat.zero_le _) (fun c hc => by simp at hc; subst hc; simpa using ha)
      have hn : notZ a = true := by simpa [notZ, isZ] using ha
      unfold os
      rw [← h0, List.drop_zero]
      have : 0 + 1 ≤ run notZ (a :: r) := run_more (Nat.zero_le _) rfl hn
      omega
theorem sum_le (L : List UInt8) : zs L + os L ≤ L.length := by
  have h1 := run_le isZ L
  have h2 := run_le notZ (L.drop (zs L))
  rw [List.length_drop] at h2
  unfold os zs at *
  omega
def pzF : Nat → List UInt8 → List UInt8
  | 0, _ => []
  | _ + 1, [] => []
  | f + 1, a :: r => encV (zs (a :: r) : Nat) ++ (encV (os (a :: r) : Nat) ++ oth (a :: r)) ++ pzF f (rst (a :: r))
def pz (L : List UInt8) : List UInt8 := pzF L.length L
theorem pzF_nil (f : Nat) : pzF f [] = [] := by cases f <;> rfl
theorem pzF_fuel : ∀ (f g : Nat) (L : List UInt8), L.length ≤ f → L.length ≤ g → pzF f L = pzF g L
  | f, g, [], _, _ => by rw [pzF_nil, pzF_nil]
  | 0, _, _ :: _, h, _ => by simp at h
  | _ + 1, 0, _ :: _, _, h => by simp at h
  | f + 1, g + 1, a :: r, hf, hg => by
    have h1 := one_of (a :: r) (by simp)
    have hl : (rst (a :: r)).length ≤ r.length := by
      unfold rst
      rw [List.length_drop, List.length_cons]
      omega
    simp only [pzF]
    rw [pzF_fuel f g (rst (a :: r)) (by simp only [List.length_cons] at hf; omega) (by simp only [List.length_cons] at hg; omega)]
theorem pz_nil : pz [] = [] := rfl
theorem pz_step {L : List UInt8} (h : L ≠ []) : pz L = encV (zs L : Nat) ++ (encV (os L : Nat) ++ oth L) ++ pz (rst L) := by
  cases L with
  | nil => exact absurd rfl h
  | cons a r =>
    have h1 := one_of (a :: r) h
    have hl : (rst (a :: r)).length ≤ r.length := by
      unfold rst
      rw [List.length_drop, List.length_cons]
      omega
    unfold pz
    rw [List.length_cons]
    simp only [pzF]
    rw [pzF_fuel r.length (rst (a :: r)).length (rst (a :: r)) hl (Nat.le_refl _)]
def packZ (s : ByteArray) : ByteArray := ⟨(pz s.data.toList).toArray⟩
end Go.Proofs.YtiopbdodegopdaaDoor
/- PackZeros: the program's and the reference's return the same plain function of the string. -/
namespace Go.Proofs.YtiopbdodegopdaaDoor
open Go.RowKit

theorem bytes_len0 (s : ByteArray) : s.data.toList.length = s.size := by simp
theorem len_drop (s : ByteArray) (k : Nat) : (s.data.toList.drop k).length = s.size - k := by rw [List.length_drop]; rfl
theorem isZ_of {s : ByteArray} {p : Nat} {h : p < s.size} (hz : (((s[p]'h).toNat : Int) == 0) = true) : isZ (s[p]'h) = true := by
  have : (s[p]'h).toNat = 0 := by simpa using hz
  unfold isZ
  exact beq_iff_eq.2 (UInt8.toNat_inj.1 this)
theorem notZ_of {s : ByteArray} {p : Nat} {h : p < s.size} (hz : (((s[p]'h).toNat : Int) == 0) = false) : notZ (s[p]'h) = true ∧ isZ (s[p]'h) = false := by
  have h1 : (s[p]'h).toNat ≠ 0 := by simpa using hz
  have h2 : isZ (s[p]'h) = false := by
    unfold isZ
    exact beq_eq_false_iff_ne.2 (fun e => h1 (by rw [e]; rfl))
  refine ⟨?_, h2⟩
  unfold notZ
  unfold isZ at h2
  rw [h2]; rfl
theorem drop_at' (s : ByteArray) (p k : Nat) (h : p + k < s.size) : (s.data.toList.drop p)[k]? = some (s[p + k]'h) := by
  rw [List.getElem?_drop, Array.getElem?_toList, Array.getElem?_eq_getElem (show p + k < s.data.size from h)]
  rfl
/-- one more zero -/
theorem z_more {s : ByteArray} {k j : Nat} (hj : j ≤ zs (s.data.toList.drop k)) (h : k + j < s.size) (hz : (((s[k + j]'h).toNat : Int) == 0) = true) : j + 1 ≤ zs (s.data.toList.drop k) :=
  run_more hj (drop_at' s k j h) (isZ_of hz)
theorem z_stop {s : ByteArray} {k j : Nat} (hj : j ≤ zs (s.data.toList.drop k)) (h : ∀ h : k + j < s.size, (((s[k + j]'h).toNat : Int) == 0) = false) : j = zs (s.data.toList.drop k) := by
  refine run_stop hj (fun c hc => ?_)
  by_cases h1 : k + j < s.size
  · rw [drop_at' s k j h1] at hc
    cases hc
    exact (notZ_of (h h1)).2
  · rw [List.getElem?_eq_none (by rw [len_drop]; omega)] at hc
    cases hc
theorem o_more {s : ByteArray} {k j : Nat} (hj : j ≤ os (s.data.toList.drop k)) (h : k + zs (s.data.toList.drop k) + j < s.size) (hz : (((s[k + zs (s.data.toList.drop k) + j]'h).toNat : Int) == 0) = false) : j + 1 ≤ os (s.data.toList.drop k) :=
  run_more hj (by rw [List.drop_drop]; exact drop_at' s _ j h) (notZ_of hz).1
theorem o_stop {s : ByteArray} {k j : Nat} (hj : j ≤ os (s.data.toList.drop k)) (h : ∀ h : k + zs (s.data.toList.drop k) + j < s.size, (((s[k + zs (s.data.toList.drop k) + j]'h).toNat : Int) == 0) = true) : j = os (s.data.toList.drop k) := by
  refine run_stop hj (fun c hc => ?_)
  rw [List.drop_drop] at hc
  by_cases h1 : k + zs (s.data.toList.drop k) + j < s.size
  · rw [drop_at' s _ j h1] at hc
    cases hc
    have := isZ_of (h h1)
    unfold notZ
    unfold isZ at this
    rw [this]; rfl
  · rw [List.getElem?_eq_none (by rw [len_drop]; omega)] at hc
    cases hc
theorem pz_next {s : ByteArray} {k : Nat} {l : List UInt8} (h : pz s.data.toList = l ++ pz (s.data.toList.drop k)) (hk : k < s.size) :
    pz s.data.toList = ((l ++ (encVar ((zs (s.data.toList.drop k) : Nat) : Int)).data.toList) ++ (packT (s.extract (k + zs (s.data.toList.drop k)) (k + zs (s.data.toList.drop k) + os (s.data.toList.drop k)))).data.toList) ++ pz (s.data.toList.drop (k + zs (s.data.toList.drop k) + os (s.data.toList.drop k))) := by
  have hne : s.data.toList.drop k ≠ [] := fun e => by
    have := congrArg List.length e
    rw [len_drop] at this
    simp at this; omega
  have hs := sum_le (s.data.toList.drop k)
  rw [len_drop] at hs
  have hx : (s.extract (k + zs (s.data.toList.drop k)) (k + zs (s.data.toList.drop k) + os (s.data.toList.drop k))).data.toList = oth (s.data.toList.drop k) := by
    rw [Lib.extract_data, Nat.add_sub_cancel_left]
    unfold oth
    rw [List.drop_drop]
  have hz : (s.extract (k + zs (s.data.toList.drop k)) (k + zs (s.data.toList.drop k) + os (s.data.toList.drop k))).size = os (s.data.toList.drop k) := by
    rw [ByteArray.size_extract]; omega
  rw [h, pz_step hne]
  unfold packT encVar
  rw [hz, ByteArray.data_append, Array.toList_append, hx]
  unfold rst
  rw [List.drop_drop]
  simp only [List.append_assoc, Nat.add_assoc]
theorem packT_size (s : ByteArray) : (packT s).size ≤ 6 + s.size := by
  unfold packT
  rw [ByteArray.size_append]
  have := encVar_size s.size
  omega

theorem zq_more {s : ByteArray} {k q : Nat} (hkq : k ≤ q) (hj : q - k ≤ zs (s.data.toList.drop k)) (h : q < s.size) (hz : (((s[q]'h).toNat : Int) == 0) = true) : q + 1 - k ≤ zs (s.data.toList.drop k) := by
  obtain ⟨j, rfl⟩ := Nat.exists_eq_add_of_le hkq
  rw [Nat.add_sub_cancel_left] at hj
  have := z_more hj h hz
  omega
theorem zq_stop {s : ByteArray} {k q : Nat} (hkq : k ≤ q) (hj : q - k ≤ zs (s.data.toList.drop k)) (h : ∀ h : q < s.size, (((s[q]'h).toNat : Int) == 0) = false) : q = k + zs (s.data.toList.drop k) := by
  obtain ⟨j, rfl⟩ := Nat.exists_eq_add_of_le hkq
  rw [Nat.add_sub_cancel_left] at hj
  have := z_stop hj h
  omega
theorem oq_more {s : ByteArray} {k q r : Nat} (hq : q = k + zs (s.data.toList.drop k)) (hqr : q ≤ r) (hj : r - q ≤ os (s.data.toList.drop k)) (h : r < s.size) (hz : (((s[r]'h).toNat : Int) == 0) = false) : r + 1 - q ≤ os (s.data.toList.drop k) := by
  subst hq
  obtain ⟨j, rfl⟩ := Nat.exists_eq_add_of_le hqr
  rw [Nat.add_sub_cancel_left] at hj
  have := o_more hj h hz
  omega
theorem oq_stop {s : ByteArray} {k q r : Nat} (hq : q = k + zs (s.data.toList.drop k)) (hqr : q ≤ r) (hj : r - q ≤ os (s.data.toList.drop k)) (h : ∀ h : r < s.size, (((s[r]'h).toNat : Int) == 0) = true) : r = q + os (s.data.toList.drop k) := by
  subst hq
  obtain ⟨j, rfl⟩ := Nat.exists_eq_add_of_le hqr
  rw [Nat.add_sub_cancel_left] at hj
  have := o_stop hj h
  omega
theorem pq_next {s : ByteArray} {k q r : Nat} {l : List UInt8} (h : pz s.data.toList = l ++ pz (s.data.toList.drop k)) (hk : k < s.size) (hq : q = k + zs (s.data.toList.drop k)) (hr : r = q + os (s.data.toList.drop k)) :
    pz s.data.toList = ((l ++ (encVar ((q : Int) - (k : Int))).data.toList) ++ (packT (s.extract q r)).data.toList) ++ pz (s.data.toList.drop r) := by
  subst hr
  have e : (q : Int) - (k : Int) = ((zs (s.data.toList.drop k) : Nat) : Int) := by omega
  rw [e, hq]
  exact pz_next h hk
theorem pq_prog {s : ByteArray} {k q r : Nat} (hk : k < s.size) (hq : q = k + zs (s.data.toList.drop k)) (hr : r = q + os (s.data.toList.drop k)) : k < r ∧ r ≤ s.size := by
  have hne : s.data.toList.drop k ≠ [] := fun e => by
    have := congrArg List.length e
    rw [len_drop] at this
    simp at this; omega
  have h1 := one_of _ hne
  have hs := sum_le (s.data.toList.drop k)
  rw [len_drop] at hs
  omega

theorem own_assoc {w : World} {base : Nat} {v : Value} {a b c : List UInt8} (h : Own w base 1 v (a ++ (b ++ c)).length (u8s (a ++ (b ++ c)))) : Own w base 1 v ((a ++ b) ++ c).length (u8s ((a ++ b) ++ c)) := by
  rw [List.append_assoc]; exact h

end Go.Proofs.YtiopbdodegopdaaDoor
/- PackInts: the program's and the reference's return the same plain function. -/
namespace Go.Proofs.YtiopbdodegopdaaDoor
open Go.RowKit

end Go.Proofs.YtiopbdodegopdaaDoor
