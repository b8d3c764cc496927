/- Texts Itm, Shs in one. -/
import Derived.Test.YtmamihkcikgmcaaKK
/- stepItems: the players collect the items that they meet. -/
namespace Go.Proofs.Ytmamihkcikgmcaa
open Go.RowKit

theorem Own.prefixB {w : World} {base n cap g k : Nat} {l : List Bd} (h : Own w base 9 (.slice (some ⟨g, 0, none⟩) n cap) n (cellsB l)) (hk : k ≤ l.length) : Own w base 9 (.slice (some ⟨g, 0, none⟩) k cap) k (cellsB (l.take k)) := by
  have hn := h.fitB
  subst hn
  rcases h.val with ⟨h', _⟩ | ⟨g', cap', h', hb, hg, hn, hm, hc, ht⟩
  · simp at h'
  · simp only [Value.slice.injEq, Option.some.injEq, Addr.mk.injEq, and_true, true_and] at h'
    obtain ⟨rfl, rfl⟩ := h'
    refine ⟨by rw [cellsB_len, List.length_take]; omega, .inr ⟨g, cap, rfl, hb, hg, by omega, hm, fun j hj => ?_, ht⟩⟩
    rw [hc j (by omega), cellsB_take, List.getElem?_take, if_pos hj]
theorem Hd.elemAt {w : World} {B G g n cap k : Nat} {x xs : Value} {X : Wd} (h : Hd w B G x xs (.slice (some ⟨g, 0, none⟩) n cap) X) (hk : k < X.bodies.length) : Elem w g (k * 9) (bAt X.bodies k) := by
  have hn : n = X.bodies.length := by
    obtain ⟨_, ao, c, e, _⟩ := h.own.b.at_
    simp only [Value.slice.injEq] at e
    exact e.2.1
  subst hn
  exact h.own.b.elem hk
theorem Hd.prefixB {w : World} {B G g n cap k : Nat} {x xs : Value} {X : Wd} (h : Hd w B G x xs (.slice (some ⟨g, 0, none⟩) n cap) X) (hk : k ≤ X.bodies.length) : Own w B 9 (.slice (some ⟨g, 0, none⟩) k cap) k (cellsB (X.bodies.take k)) := by
  have hn : n = X.bodies.length := by
    obtain ⟨_, ao, c, e, _⟩ := h.own.b.at_
    simp only [Value.slice.injEq] at e
    exact e.2.1
  subst hn
  exact Own.prefixB h.own.b hk
theorem it_scs {n : Nat} {pl : List Bd} (hp : pl.length = n) : ∀ (bs : List Bd) (s : List Int × List Bd), Scs n s.1 → Scs n (bs.foldl (itStep pl) s).1
  | [], _, h => h
  | b :: bs, s, h => by
    refine it_scs hp bs _ ?_
    unfold itStep
    split
    · rename_i hh
      have := metT_bd pl b (-1)
      exact (addT_ok h hh.2 (by omega)).1
    · exact h
theorem it_len {pl : List Bd} {sc : List Int} (bs : List Bd) : (itAll pl sc bs).2.length ≤ bs.length := by
  have := itAll_left pl bs (sc, [])
  unfold itAll
  simpa using this
theorem it_fold {n N : Nat} {bs : List Bd} {sc : List Int} (hN : bs.length = N) (hn : n ≤ N) (hs : Scs n sc) : ∃ F : Nat → List Int × List Bd, F 0 = (sc, []) ∧ F (N - n) = itAll (bs.take n) sc (bs.drop n) ∧
    (∀ k, k < N - n → F (k + 1) = itStep (bs.take n) (F k) (bAt bs (n + k))) ∧ ∀ k, Scs n (F k).1 ∧ (F k).2.length ≤ k := by
  have hpl : (bs.take n).length = n := by rw [List.length_take]; omega
  have hR : (bs.drop n).length = N - n := by rw [List.length_drop, hN]
  refine ⟨fun k => itAll (bs.take n) sc ((bs.drop n).take k), rfl, ?_, fun k hk => ?_, fun k => ⟨?_, ?_⟩⟩
  · show itAll _ _ ((bs.drop n).take (N - n)) = _
    rw [show (bs.drop n).take (N - n) = bs.drop n from List.take_of_length_le (by omega)]
  · show itAll _ _ ((bs.drop n).take (k + 1)) = _
    rw [itAll_succ (by omega), List.getElem_drop, bAt_eq (by omega)]
  · exact it_scs hpl _ _ hs
  · refine Nat.le_trans (it_len _) ?_
    rw [List.length_take]; omega
theorem it_yes {pl : List Bd} {s : List Int × List Bd} {b : Bd} (h1 : b.kind = 2) (h2 : 0 ≤ metT pl b (-1)) : itStep pl s b = (addT s.1 (metT pl b (-1)), s.2) := if_pos ⟨h1, h2⟩
theorem it_no {pl : List Bd} {s : List Int × List Bd} {b : Bd} (h : ¬ (b.kind = 2 ∧ 0 ≤ metT pl b (-1))) : itStep pl s b = (s.1, s.2 ++ [b]) := if_neg h
/-- the loop's state -/
structure ItI (w wr : World) (B G : Nat) (x xs xb : Value) (X : Wd) (v : Value) (s : List Int × List Bd) : Prop where
  hd : Hd wr B G x xs xb { X with scores := s.1 }
  ow : Own wr w.heap.size 9 v s.2.length (cellsB s.2)
  bl : Below B w wr
  sz : w.heap.size ≤ wr.heap.size
set_option maxRecDepth 100000 in
set_option maxHeartbeats 8000000 in
theorem items_impl {x xs xb : Value} {X : Wd} {B G : Nat} (w : World) (h : Hd w B G x xs xb X) (h1 : 1 ≤ X.scores.length) (h4 : X.scores.length ≤ 4) (hn : X.scores.length ≤ X.bodies.length) (hm : X.bodies.length ≤ 24) (hsc : Scs X.scores.length X.scores) :
    Calls Try.prog 85 #[.pointer (some ⟨G, 0, none⟩)] w fun e w' => e = .returned (.tuple #[]) ∧ (∃ xb', Hd w' B G x xs xb' { X with scores := (itAll (X.bodies.take X.scores.length) X.scores (X.bodies.drop X.scores.length)).1, bodies := X.bodies.take X.scores.length ++ (itAll (X.bodies.take X.scores.length) X.scores (X.bodies.drop X.scores.length)).2 }) ∧ Below B w w' := by
  obtain ⟨gb, cap, hxb, hgb⟩ := h.formB (by omega)
  subst hxb
  obtain ⟨gs, scap, hxs, hgs⟩ := h.formS (by omega)
  subst hxs
  have hcap : X.bodies.length ≤ cap ∧ cap ≤ maxLen := by
    rcases h.own.b.val with ⟨e, _⟩ | ⟨g, c, e, _, _, a, b, _⟩
    · simp at e
    · simp only [Value.slice.injEq] at e; omega
  unfold maxLen at hcap
  obtain ⟨hcap1, hcap2⟩ := hcap
  have q3 := h.blk.c3
  have q4 := h.blk.c4
  generalize hN : X.bodies.length = N at *
  generalize hn0 : X.scores.length = n at *
  have HN := Lib.hid hN
  have Hn0 := Lib.hid hn0
  clear hN hn0
  have b1 : (0 : Int) ≤ (n : Int) := by omega
  have b2 : (n : Int) ≤ (N : Int) := by omega
  have b3 : (N : Int) ≤ (cap : Int) := by omega
  have b4 : (n : Int) ≤ (cap : Int) := by omega
  have b5 : ¬ cap < n := by omega
  have b6 : ¬ cap = 0 := by omega
  go_enter Try.func85, Try.ntmps85
  go_upto_region 1 with (fail)
  have q3d : w.drew.cell? ⟨G, 3, none⟩ = some (.slice (some ⟨gs, 0, none⟩) n scap) := q3
  have q4d : w.drew.cell? ⟨G, 4, none⟩ = some (.slice (some ⟨gb, 0, none⟩) N cap) := q4
  refine wp_region_still_lit (by kernel_rfl) (by kernel_rfl) ?_
  repeat still_step
  refine wpStill_nil ?_
  obtain ⟨ao, hao, hao2⟩ : ∃ ao : Option Addr, (if cap = n then some (⟨gb, 0, none⟩ : Addr) else some ⟨gb, n * 9, none⟩) = ao ∧ (0 < N - n → ao = some ⟨gb, n * 9, none⟩) := ⟨_, rfl, fun hp => if_neg (by omega)⟩
  rw [hao]
  clear hao
  change Exit.then _ _ Exit.normal _ w.drew
  have hpl : (X.bodies.take n).length = n := by rw [List.length_take]; have := HN.out; omega
  have hR : (X.bodies.drop n).length = N - n := by rw [List.length_drop, HN.out]
  have HMET : ∀ (b : Bd) (but : Int) (st1 : List Int) (wx : World), Hd wx B G x (.slice (some ⟨gs, 0, none⟩) n scap) (.slice (some ⟨gb, 0, none⟩) N cap) { X with scores := st1 } → Scs n st1 → Calls Try.prog 118 #[.pointer (some ⟨G, 0, none⟩), b.val, .int .i64 but] wx fun e w' => e = .returned (.int .i64 (metT (X.bodies.take n) b but)) ∧ Below wx.heap.size wx w' := fun b but st1 wx hx hs => by
    have := met_impl b but wx hx (by show st1.length ≤ X.bodies.length; rw [hs.len, HN.out]; omega) (by show X.bodies.length ≤ 1000; rw [HN.out]; omega)
    simp only [hs.len] at this
    exact this
  have HADD : ∀ (k : Nat) (st1 : List Int) (wx : World), Hd wx B G x (.slice (some ⟨gs, 0, none⟩) n scap) (.slice (some ⟨gb, 0, none⟩) N cap) { X with scores := st1 } → Scs n st1 → k < n → Calls Try.prog 119 #[.pointer (some ⟨G, 0, none⟩), .int .i64 (k : Int)] wx fun e w' => e = .returned (.tuple #[]) ∧ Hd w' B G x (.slice (some ⟨gs, 0, none⟩) n scap) (.slice (some ⟨gb, 0, none⟩) N cap) { X with scores := addT st1 k } ∧ Tch (fun i => (Value.slice (some ⟨gs, 0, none⟩) n scap).ownBlock = some i) wx w' := fun k st1 wx hx hs hk =>
    addscore_impl k wx hx (by show k < st1.length; rw [hs.len]; exact hk) (hs.at_ hk) (by show st1.length ≤ 1000; rw [hs.len]; omega)
  obtain ⟨F, hF0, hFM, hFS, hFB⟩ := it_fold (n := n) (N := N) (bs := X.bodies) (sc := X.scores) HN.out hn hsc
  have HYES := Lib.hid (fun st b => it_yes (pl := X.bodies.take n) (s := st) (b := b))
  have HNO := Lib.hid (fun st b => it_no (pl := X.bodies.take n) (s := st) (b := b))
  have HBD := fun b but => metT_bd (X.bodies.take n) b but
  rw [hpl] at HBD
  have hsz0 : B ≤ w.heap.size := by have := h.ge; have := h.blk.lt; omega
  have hlow := h.lt
  have hI : ItI w w.drew B G x (.slice (some ⟨gs, 0, none⟩) n scap) (.slice (some ⟨gb, 0, none⟩) N cap) X (.slice none 0 0) (F 0) := by rw [hF0]; exact ⟨h.drew, Own.nil _ _ _, (Below.refl _ _).drew, Nat.le_refl _⟩
  have HFM := Lib.hid hFM.symm
  have HFS := Lib.hid hFS
  have HFB := Lib.hid hFB
  clear hFM hFS hFB hF0 hR hpl q3 q4 q3d q4d
  generalize hplq : X.bodies.take n = pl at *
  have HPL := Lib.hid hplq
  clear hplq
  generalize hM : N - n = M at *
  have HM := Lib.hid hM
  have hM24 : M ≤ 24 := by omega
  clear hM
  go_wp2_with fail
  go_loopw [2, 17] (fun v i wr => ∃ k : Nat, k ≤ M ∧ i = .int .i64 k ∧ ItI w wr B G x (.slice (some ⟨gs, 0, none⟩) n scap) (.slice (some ⟨gb, 0, none⟩) N cap) X v (F k)) (fun _ i _ => M - (intOf i).toNat)
  case atStart => exact ⟨0, Nat.zero_le _, rfl, hI⟩
  case round =>
    clear hI
    obtain ⟨k, hk, rfl, hI⟩ := hrel
    by_cases hlt : k < M
    · have HST := Lib.hid (HFS.out k hlt)
      have hao : ao = some ⟨gb, n * 9, none⟩ := hao2 (by omega)
      subst hao
      have hfb := HFB.out k
      generalize F k = st at *
      obtain ⟨hH, hO, hb, hsz⟩ := hI
      obtain ⟨hsc1, hle1⟩ := hfb
      have hkN : n + k < X.bodies.length := by have := HM.out; rw [HN.out]; omega
      have hE := hH.elemAt (k := n + k) hkN
      have hR := hE.range
      rw [show (n + k) * 9 = n * 9 + k * 9 by omega] at hR
      simp only at hR
      have HYS := Lib.hid (HYES.out st (bAt X.bodies (n + k)))
      have HNS := Lib.hid (HNO.out st (bAt X.bodies (n + k)))
      generalize bAt X.bodies (n + k) = b at *
      clear hE HYES HNO HFS HFB
      have c1 : (0 : Int) ≤ (k : Int) := by omega
      have c2 : (k : Int) < (M : Int) := by omega
      go_upto_region 3 with (fail)
      apply wp_region_lit
      iterate 3 go_step
      refine load_bod (op := ⟨some 20, _, _, _, _, _⟩) rfl _ rfl gb (n * 9 + k * 9) rfl b hR ?_
      refine alloc_bod rfl rfl ?_
      have hBk := Blk.new wr 42 zB
      have hk0 : Below wr.heap.size wr (wr.alloc (.cells zB.cells.toArray 42)) := (Below.refl _ _).alloc (Nat.le_refl _) _
      change Blk (wr.alloc (.cells zB.cells.toArray 42)) wr.heap.size zB at hBk
      generalize World.alloc wr _ = w1 at hBk hk0
      refine store_bod (op := ⟨none, _, _, _, _, _⟩) rfl _ _ rfl wr.heap.size 0 rfl b rfl hBk.there ?_
      have hB2 := hBk.setAll b
      have hk1 : Below wr.heap.size wr (w1.setCells wr.heap.size 0 b.cells) := setCells_below hk0 (Nat.le_refl _)
      generalize World.setCells w1 _ _ _ = w2 at hB2 hk1
      have hH2 := hH.below hk1
      have hO2 := hO.belowS hk1
      have hb2 := hb.trans (hk1.mono (Nat.le_trans hsz0 hsz))
      have hsz2 := Nat.le_trans hsz hk1.size
      have hbq : w.heap.size ≤ wr.heap.size := hsz
      clear hBk hk0 hk1 hH hO hb hsz hR
      generalize wr.heap.size = bq at *
      have c0' := hB2.c0
      by_cases hk2 : b.kind = 2
      · have x1 : (b.kind == 2) = true := beq_iff_eq.2 hk2
        replace hk2 := Lib.hid hk2
        go_upto_region 5 with (fail)
        apply wp_region_lit
        iterate 3 go_step
        refine load_bod (op := ⟨some 25, _, _, _, _, _⟩) rfl _ rfl bq 0 rfl b hB2.range ?_
        refine wpList_callC rfl 118 _ _ rfl Try.func118 (by kernel_rfl) (by kernel_rfl) #[.pointer (some ⟨G, 0, none⟩), b.val, .int .i64 (-1)] (by kernel_rfl) (HMET b (-1) st.1 w2 hH2 hsc1) ?_
        rintro e w3 ⟨rfl, hk3⟩
        refine ⟨_, rfl, ?_⟩
        have hH3 := hH2.below hk3
        have hO3 := hO2.belowS hk3
        have hb3 := hb2.trans (hk3.mono (Nat.le_trans hsz0 hsz2))
        have hsz3 := Nat.le_trans hsz2 hk3.size
        have hB3 := hB2.below hk3 hB2.lt
        clear hH2 hO2 hb2 hsz2 hB2 hk3 c0' HMET
        have hbd := HBD b (-1)
        have HY2 := Lib.hid (HYS.out hk2.out)
        have HN2 := Lib.hid (fun hneg : ¬ 0 ≤ metT pl b (-1) => HNS.out (fun e => hneg e.2))
        clear HYS HNS HBD hk2 x1
        generalize metT pl b (-1) = z at *
        simp only [Act.put, List.setIfInBounds_toArray, List.set_cons_zero, List.set_cons_succ]
        by_cases hz0 : 0 ≤ z
        · obtain ⟨p, rfl⟩ : ∃ p : Nat, z = p := ⟨z.toNat, by omega⟩
          have HY3 := Lib.hid (HST.out.trans (HY2.out hz0))
          clear HST HY2 HN2 hB3
          go_upto_region 7 with (fail)
          apply wp_region_lit
          iterate 6 go_step
          refine wpList_callC rfl 119 _ _ rfl Try.func119 (by kernel_rfl) (by kernel_rfl) #[.pointer (some ⟨G, 0, none⟩), .int .i64 (p : Int)] (by kernel_rfl) (HADD p st.1 w3 hH3 hsc1 (by omega)) ?_
          rintro e w4 ⟨rfl, hH4, ht⟩
          refine ⟨_, rfl, ?_⟩
          have hO4 := hO3.tch ht (fun i hi e => by have := (hO3.ge i hi).1; have := hlow i (.inr (.inr (.inl e))); omega)
          have hb4 := hb3.trans (ht.below (by omega) fun i hi => (hlow i (.inr (.inr (.inl hi)))).1)
          have hsz4 := Nat.le_trans hsz3 ht.size
          clear hH3 hO3 hb3 hsz3 ht HADD
          simp only [Act.put, List.setIfInBounds_toArray, List.set_cons_zero, List.set_cons_succ]
          go_wp2_with fail
          go_roundw
          case rel => exact ⟨k + 1, by omega, by go_num, by rw [HY3.out]; exact ⟨hH4, hO4, hb4, hsz4⟩⟩
          case measure => simp [intOf]; omega
        · have HN3 := Lib.hid (HST.out.trans (HN2.out hz0))
          have x3 : decide (z ≥ 0) = false := decide_eq_false (by omega)
          clear HST HY2 HN2
          go_upto_region 8 with (fail)
          apply wp_region_lit
          iterate 3 go_step
          refine load_bod (op := ⟨some 33, _, _, _, _, _⟩) rfl _ rfl bq 0 rfl b hB3.range ?_
          refine lit_bod (o := ⟨some 34, _, _, _, _, _⟩) rfl _ rfl b rfl ?_
          have hq := own_lit w3 b
          have hk4 : Below w3.heap.size w3 (w3.alloc (.cells b.cells.toArray 42)) := (Below.refl _ _).alloc (Nat.le_refl _) _
          generalize World.alloc w3 _ = w4 at hq hk4
          have hH4 := hH3.below hk4
          have hO4 := hO3.belowS hk4
          have hb4 := hb3.trans (hk4.mono (Nat.le_trans hsz0 hsz3))
          have hsz4 := Nat.le_trans hsz3 hk4.size
          clear hH3 hO3 hb3 hsz3 hk4
          obtain ⟨lo, lc, rfl⟩ := hO4.slice_
          refine app_bods (o := ⟨some 35, _, _, _, _, _⟩) w4 rfl _ _ rfl w.heap.size hO4 rfl hq.at_ rfl (by omega) hsz4 ?_
          intro v5 w5 hv hg hvb
          have hO5 : Own w5 w.heap.size 9 v5 (st.2 ++ [b]).length (cellsB (st.2 ++ [b])) := by rw [List.length_append]; exact hv
          have hH5 := hH4.tch (Tch.of_grown hg fun i hi => (show (fun i => w.heap.size ≤ i) i from (hO4.ge i hi).1)) (fun i hi e => by have := (hlow i hi).2; have e' : w.heap.size ≤ i := e; omega)
          have hb5 := hb4.grown hg (by omega) (fun j h => by have := (hO4.ge j h).1; omega)
          have hsz5 := Nat.le_trans hsz4 hg.size
          obtain ⟨vo, vc, rfl⟩ := hO5.slice_
          clear hv hg hvb hH4 hO4 hb4 hsz4 hq hB3
          simp only [Act.put, List.setIfInBounds_toArray, List.set_cons_zero, List.set_cons_succ]
          go_wp2_with fail
          go_roundw
          case rel => exact ⟨k + 1, by omega, by go_num, by rw [HN3.out]; exact ⟨hH5, hO5, hb5, hsz5⟩⟩
          case measure => simp [intOf]; omega
      · have HN3 := Lib.hid (HST.out.trans (HNS.out (fun e => hk2 e.1)))
        have x1 : (b.kind == 2) = false := beq_eq_false_iff_ne.2 hk2
        clear HST HYS HNS
        go_upto_region 8 with (fail)
        apply wp_region_lit
        iterate 3 go_step
        refine load_bod (op := ⟨some 33, _, _, _, _, _⟩) rfl _ rfl bq 0 rfl b hB2.range ?_
        refine lit_bod (o := ⟨some 34, _, _, _, _, _⟩) rfl _ rfl b rfl ?_
        have hq := own_lit w2 b
        have hk4 : Below w2.heap.size w2 (w2.alloc (.cells b.cells.toArray 42)) := (Below.refl _ _).alloc (Nat.le_refl _) _
        generalize World.alloc w2 _ = w4 at hq hk4
        have hH4 := hH2.below hk4
        have hO4 := hO2.belowS hk4
        have hb4 := hb2.trans (hk4.mono (Nat.le_trans hsz0 hsz2))
        have hsz4 := Nat.le_trans hsz2 hk4.size
        clear hH2 hO2 hb2 hsz2 hk4
        obtain ⟨lo, lc, rfl⟩ := hO4.slice_
        refine app_bods (o := ⟨some 35, _, _, _, _, _⟩) w4 rfl _ _ rfl w.heap.size hO4 rfl hq.at_ rfl (by omega) hsz4 ?_
        intro v5 w5 hv hg hvb
        have hO5 : Own w5 w.heap.size 9 v5 (st.2 ++ [b]).length (cellsB (st.2 ++ [b])) := by rw [List.length_append]; exact hv
        have hH5 := hH4.tch (Tch.of_grown hg fun i hi => (show (fun i => w.heap.size ≤ i) i from (hO4.ge i hi).1)) (fun i hi e => by have := (hlow i hi).2; have e' : w.heap.size ≤ i := e; omega)
        have hb5 := hb4.grown hg (by omega) (fun j h => by have := (hO4.ge j h).1; omega)
        have hsz5 := Nat.le_trans hsz4 hg.size
        obtain ⟨vo, vc, rfl⟩ := hO5.slice_
        clear hv hg hvb hH4 hO4 hb4 hsz4 hq hB2
        simp only [Act.put, List.setIfInBounds_toArray, List.set_cons_zero, List.set_cons_succ]
        go_wp2_with fail
        go_roundw
        case rel => exact ⟨k + 1, by omega, by go_num, by rw [HN3.out]; exact ⟨hH5, hO5, hb5, hsz5⟩⟩
        case measure => simp [intOf]; omega
    · obtain rfl : k = M := by omega
      obtain ⟨hH, hO, hb, hsz⟩ := hI
      obtain ⟨hsc1, hle1⟩ := HFB.out k
      clear HMET HADD HBD HYES HNO HFS HFB hao2
      generalize F k = st at *
      obtain ⟨lo, lc, rfl⟩ := hO.slice_
      go_upto_region 10 with (fail)
      have hHd := hH.drew
      have hOd := hO.drew
      have hbD := hb.drew
      have hszD : w.heap.size ≤ wr.drew.heap.size := hsz
      have e3 := hHd.blk.c3
      have e4 := hHd.blk.c4
      clear hH hO hb hsz
      refine wp_region_sch (fun wx => wx.cell? ⟨G, 4, none⟩ = some (.slice (some ⟨gb, 0, none⟩) N cap) ∧ wx.cell? ⟨G, 3, none⟩ = some (.slice (some ⟨gs, 0, none⟩) n scap)) 15 17 (.st 0 (.st 1 (.st 2 (.st 3 (.st 4 (.st 5 (.st 6 (.st 7 (.st 8 (.st 9 (.st 10 (.st 11 (.ef 12 (.st 13 (.st 14 (.fin [15])))))))))))))))) (by kernel_rfl) (by kernel_rfl) (fun _ _ d _ _ h => by cases d <;> exact h) ⟨e4, e3⟩ ?_
      refine sch_still (o := ⟨some 37, _, _, _, _, _⟩) (v := .pointer (some ⟨G, 0, none⟩)) rfl rfl ?_ ?_
      · intro wx hSx
        go_simp
      simp only [Act.put, List.setIfInBounds_toArray, List.set_cons_zero, List.set_cons_succ]
      refine sch_still (o := ⟨some 38, _, _, _, _, _⟩) (v := .pointer (some ⟨G, 0, none⟩)) rfl rfl ?_ ?_
      · intro wx hSx
        go_simp
      simp only [Act.put, List.setIfInBounds_toArray, List.set_cons_zero, List.set_cons_succ]
      refine sch_still (o := ⟨some 39, _, _, _, _, _⟩) (v := .pointer (some ⟨G, 0, none⟩)) rfl rfl ?_ ?_
      · intro wx hSx
        go_simp
      simp only [Act.put, List.setIfInBounds_toArray, List.set_cons_zero, List.set_cons_succ]
      refine sch_still (o := ⟨some 40, _, _, _, _, _⟩) (v := .pointer (some ⟨G, 4, none⟩)) rfl rfl ?_ ?_
      · intro wx hSx
        go_simp
      simp only [Act.put, List.setIfInBounds_toArray, List.set_cons_zero, List.set_cons_succ]
      refine sch_still (o := ⟨some 41, _, _, _, _, _⟩) (v := .slice (some ⟨gb, 0, none⟩) N cap) rfl rfl ?_ ?_
      · intro wx hSx
        obtain ⟨s1, s2⟩ := hSx; go_simp
      simp only [Act.put, List.setIfInBounds_toArray, List.set_cons_zero, List.set_cons_succ]
      refine sch_still (o := ⟨some 42, _, _, _, _, _⟩) (v := .pointer (some ⟨G, 0, none⟩)) rfl rfl ?_ ?_
      · intro wx hSx
        go_simp
      simp only [Act.put, List.setIfInBounds_toArray, List.set_cons_zero, List.set_cons_succ]
      refine sch_still (o := ⟨some 43, _, _, _, _, _⟩) (v := .pointer (some ⟨G, 0, none⟩)) rfl rfl ?_ ?_
      · intro wx hSx
        go_simp
      simp only [Act.put, List.setIfInBounds_toArray, List.set_cons_zero, List.set_cons_succ]
      refine sch_still (o := ⟨some 44, _, _, _, _, _⟩) (v := .pointer (some ⟨G, 3, none⟩)) rfl rfl ?_ ?_
      · intro wx hSx
        go_simp
      simp only [Act.put, List.setIfInBounds_toArray, List.set_cons_zero, List.set_cons_succ]
      refine sch_still (o := ⟨some 45, _, _, _, _, _⟩) (v := .slice (some ⟨gs, 0, none⟩) n scap) rfl rfl ?_ ?_
      · intro wx hSx
        obtain ⟨s1, s2⟩ := hSx; go_simp
      simp only [Act.put, List.setIfInBounds_toArray, List.set_cons_zero, List.set_cons_succ]
      refine sch_still (o := ⟨some 46, _, _, _, _, _⟩) (v := .int .i64 (n : Int)) rfl rfl ?_ ?_
      · intro wx hSx
        go_simp
      simp only [Act.put, List.setIfInBounds_toArray, List.set_cons_zero, List.set_cons_succ]
      refine sch_still (o := ⟨some 47, _, _, _, _, _⟩) (v := .slice (some ⟨gb, 0, none⟩) n cap) rfl rfl ?_ ?_
      · intro wx hSx
        go_simp
      simp only [Act.put, List.setIfInBounds_toArray, List.set_cons_zero, List.set_cons_succ]
      refine sch_still (o := ⟨some 48, _, _, _, _, _⟩) (v := .slice lo st.2.length lc) rfl rfl ?_ ?_
      · intro wx hSx
        go_simp
      simp only [Act.put, List.setIfInBounds_toArray, List.set_cons_zero, List.set_cons_succ]
      generalize wr.drew = wq at *
      refine sch_ef (o := ⟨some 49, _, _, _, _, _⟩) rfl ?_
      have hpre := hHd.prefixB (k := n) (by show n ≤ X.bodies.length; rw [HN.out]; omega)
      refine app_bods (o := ⟨some 49, _, _, _, _, _⟩) wq rfl _ _ rfl B hpre rfl hOd.at_ rfl (by omega) (by omega) ?_
      intro v5 w5 hv hg hvb
      have hH5 := hHd.appB hv hg hvb
      have g4 := (hHd.blk.grown hg hHd.n3).c4
      have g3 := (hHd.blk.grown hg hHd.n3).c3
      have p4 := (hHd.blk.grown hg hHd.n3).f4
      have ov := slice_one hv.at_
      clear hv hg hvb
      refine sch_next ⟨g4, g3⟩ ?_
      simp only [Act.put, List.setIfInBounds_toArray, List.set_cons_zero, List.set_cons_succ]
      refine sch_still (o := ⟨some 50, _, _, _, _, _⟩) (v := .pointer (some ⟨G, 0, none⟩)) rfl rfl ?_ ?_
      · intro wx hSx
        go_simp
      simp only [Act.put, List.setIfInBounds_toArray, List.set_cons_zero, List.set_cons_succ]
      refine sch_still (o := ⟨some 51, _, _, _, _, _⟩) (v := .pointer (some ⟨G, 4, none⟩)) rfl rfl ?_ ?_
      · intro wx hSx
        go_simp
      simp only [Act.put, List.setIfInBounds_toArray, List.set_cons_zero, List.set_cons_succ]
      refine sch_end (.cons (o := ⟨none, _, _, _, _, _⟩) rfl .nil) ?_
      refine store_cell (o := ⟨none, _, _, _, _, _⟩) rfl _ _ _ rfl G 4 rfl v5 rfl ov size_bods g4 p4 ?_
      generalize World.setCell w5 _ _ = w6 at hH5
      obtain ⟨hH6, ht⟩ := hH5
      have hb6 := hbD.trans (hHd.tchBelow ht (fun i hi => hi.imp id fun e => .inr (.inr e)))
      clear hHd hOd hbD e3 e4 g3 g4 p4 ov ht
      go_wp2_with fail
      refine Great.bodyPost_end0 rfl rfl ⟨rfl, ⟨v5, ?_⟩, hb6⟩
      rw [HPL.out] at hH6 ⊢
      rw [HFM.out]
      exact hH6
end Go.Proofs.Ytmamihkcikgmcaa
/- stepShots: the shots hit players. -/
namespace Go.Proofs.Ytmamihkcikgmcaa
open Go.RowKit

theorem sh_fold {l : List ByteArray} {n N : Nat} {bs : List Bd} {sc : List Int} (hN : bs.length = N) (hn : n ≤ N) (hs : Scs n sc) (hB : Bods l n bs) : ∃ F : Nat → Sh, F 0 = ⟨bs.take n, sc, []⟩ ∧ F (N - n) = shAll (bs.take n) sc (bs.drop n) ∧
    (∀ k, k < N - n → F (k + 1) = shStep (F k) (bAt bs (n + k))) ∧ (∀ k, ShOk l n sc (F k) ∧ (F k).left.length ≤ k) ∧ ∀ k, k < N - n → OtOk l n (bAt bs (n + k)) := by
  have hR : (bs.drop n).length = N - n := by rw [List.length_drop, hN]
  refine ⟨fun k => shAll (bs.take n) sc ((bs.drop n).take k), rfl, ?_, fun k hk => ?_, fun k => ⟨?_, ?_⟩, fun k hk => ?_⟩
  · show shAll _ _ ((bs.drop n).take (N - n)) = _
    rw [show (bs.drop n).take (N - n) = bs.drop n from List.take_of_length_le (by omega)]
  · show shAll _ _ ((bs.drop n).take (k + 1)) = _
    rw [shAll_succ (by omega), List.getElem_drop, bAt_eq (by omega)]
  · exact shAll_ok _ _ ⟨pls_take hB, hs, fun _ _ => Int.le_refl _, fun b hb => by simp at hb⟩ (fun b hb => hB.ot b (List.mem_of_mem_take hb))
  · have := shAll_left ((bs.drop n).take k) ⟨bs.take n, sc, []⟩
    simp only [List.length_nil, List.length_take] at this
    show (shAll _ _ _).left.length ≤ k
    unfold shAll
    omega
  · have := hB.ot_at (k := n + k) (by omega) (by omega)
    rw [bAt_eq (by omega)]
    exact this
theorem sh_yes {s : Sh} {b : Bd} (h1 : b.kind = 1) (h2 : 0 ≤ metT s.pl b b.owner) : shStep s b = ⟨hitP s.pl (metT s.pl b b.owner).toNat, hitS s.pl s.sc (metT s.pl b b.owner).toNat b.owner, s.left⟩ := if_pos ⟨h1, h2⟩
theorem sh_no {s : Sh} {b : Bd} (h : ¬ (b.kind = 1 ∧ 0 ≤ metT s.pl b b.owner)) : shStep s b = ⟨s.pl, s.sc, s.left ++ [b]⟩ := if_neg h
theorem bAt_app {pl r : List Bd} {n k : Nat} (hp : pl.length = n) : bAt (pl ++ r) (n + k) = bAt r k := by
  unfold bAt List.getD
  rw [List.getElem?_append_right (by omega), hp, Nat.add_sub_cancel_left]
theorem bAt_dropn {bs : List Bd} {n k : Nat} : bAt (bs.drop n) k = bAt bs (n + k) := by unfold bAt List.getD; rw [List.getElem?_drop]
theorem take_app {pl r : List Bd} {n : Nat} (hp : pl.length = n) : (pl ++ r).take n = pl := by rw [← hp]; exact List.take_left
theorem set_app {pl r : List Bd} {p : Nat} {b : Bd} (h : p < pl.length) : (pl ++ r).set p b = pl.set p b ++ r := List.set_append_left _ _ h
theorem Hd.elemFree {w : World} {B G g n cap k j : Nat} {x xs : Value} {X : Wd} (h : Hd w B G x xs (.slice (some ⟨g, 0, none⟩) n cap) X) (hk : k < X.bodies.length) (hj : j < 9) : w.frozen? ⟨g, k * 9 + j, none⟩ = false := by
  have hn : n = X.bodies.length := by
    obtain ⟨_, ao, c, e, _⟩ := h.own.b.at_
    simp only [Value.slice.injEq] at e
    exact e.2.1
  subst hn
  exact h.own.b.free _ (by omega)
theorem hit_dead {pl R : List Bd} {sc : List Int} {p : Nat} {o : Int} {c : Bd} (hp : p < pl.length) (hc : bAt pl p = c) (h : c.life - 1 = 0) :
    hitP pl p ++ R = (((((pl ++ R).set p { c with life := c.life - 1 }).set p { c with life := c.life - 1, vx := 0 }).set p { c with life := c.life - 1, vx := 0, vy := 0 }).set p { c with life := c.life - 1, vx := 0, vy := 0, timer := 20 }) ∧ hitS pl sc p o = addT sc o := by
  refine ⟨?_, by unfold hitS; rw [hc, if_pos h]⟩
  simp only [List.set_set]
  rw [set_app hp]
  unfold hitP
  rw [hc, if_pos h, h]
theorem hit_live {pl R : List Bd} {sc : List Int} {p : Nat} {o : Int} {c : Bd} (hp : p < pl.length) (hc : bAt pl p = c) (h : ¬ c.life - 1 = 0) :
    hitP pl p ++ R = (pl ++ R).set p { c with life := c.life - 1 } ∧ hitS pl sc p o = sc := by
  refine ⟨?_, by unfold hitS; rw [hc, if_neg h]⟩
  rw [set_app hp]
  unfold hitP
  rw [hc, if_neg h]
theorem bAt_set_self {l : List Bd} {p : Nat} {b : Bd} (h : p < l.length) : bAt (l.set p b) p = b := by rw [bAt_set h, if_pos rfl]
/-- the loop's state -/
structure ShI (w wr : World) (B G : Nat) (x xs xb : Value) (X : Wd) (R : List Bd) (v : Value) (s : Sh) : Prop where
  hd : Hd wr B G x xs xb { X with scores := s.sc, bodies := s.pl ++ R }
  ow : Own wr w.heap.size 9 v s.left.length (cellsB s.left)
  bl : Below B w wr
  sz : w.heap.size ≤ wr.heap.size
set_option maxRecDepth 100000 in
set_option maxHeartbeats 8000000 in
theorem shots_impl {x xs xb : Value} {X : Wd} {B G : Nat} (w : World) (h : Hd w B G x xs xb X) (h1 : 1 ≤ X.scores.length) (h4 : X.scores.length ≤ 4) (hn : X.scores.length ≤ X.bodies.length) (hm : X.bodies.length ≤ 24) (hsc : Scs X.scores.length X.scores) (hB : Bods X.rows X.scores.length X.bodies) :
    Calls Try.prog 84 #[.pointer (some ⟨G, 0, none⟩)] w fun e w' => e = .returned (.tuple #[]) ∧ (∃ xb', Hd w' B G x xs xb' { X with scores := (shAll (X.bodies.take X.scores.length) X.scores (X.bodies.drop X.scores.length)).sc, bodies := (shAll (X.bodies.take X.scores.length) X.scores (X.bodies.drop X.scores.length)).pl ++ (shAll (X.bodies.take X.scores.length) X.scores (X.bodies.drop X.scores.length)).left }) ∧ Below B w w' := by
  obtain ⟨gb, cap, hxb, hgb⟩ := h.formB (by omega)
  subst hxb
  obtain ⟨gs, scap, hxs, hgs⟩ := h.formS (by omega)
  subst hxs
  have hcap : X.bodies.length ≤ cap ∧ cap ≤ maxLen := by
    rcases h.own.b.val with ⟨e, _⟩ | ⟨g, c, e, _, _, a, b, _⟩
    · simp at e
    · simp only [Value.slice.injEq] at e; omega
  unfold maxLen at hcap
  obtain ⟨hcap1, hcap2⟩ := hcap
  have q3 := h.blk.c3
  have q4 := h.blk.c4
  generalize hN : X.bodies.length = N at *
  generalize hn0 : X.scores.length = n at *
  have HN := Lib.hid hN
  have Hn0 := Lib.hid hn0
  clear hN hn0
  have b1 : (0 : Int) ≤ (n : Int) := by omega
  have b2 : (n : Int) ≤ (N : Int) := by omega
  have b3 : (N : Int) ≤ (cap : Int) := by omega
  have b4 : (n : Int) ≤ (cap : Int) := by omega
  have b5 : ¬ cap < n := by omega
  have b6 : ¬ cap = 0 := by omega
  go_enter Try.func84, Try.ntmps84
  go_upto_region 1 with (fail)
  have q3d : w.drew.cell? ⟨G, 3, none⟩ = some (.slice (some ⟨gs, 0, none⟩) n scap) := q3
  have q4d : w.drew.cell? ⟨G, 4, none⟩ = some (.slice (some ⟨gb, 0, none⟩) N cap) := q4
  refine wp_region_still_lit (by kernel_rfl) (by kernel_rfl) ?_
  repeat still_step
  refine wpStill_nil ?_
  obtain ⟨ao, hao, hao2⟩ : ∃ ao : Option Addr, (if cap = n then some (⟨gb, 0, none⟩ : Addr) else some ⟨gb, n * 9, none⟩) = ao ∧ (0 < N - n → ao = some ⟨gb, n * 9, none⟩) := ⟨_, rfl, fun hp => if_neg (by omega)⟩
  rw [hao]
  clear hao
  change Exit.then _ _ Exit.normal _ w.drew
  have hR : (X.bodies.drop n).length = N - n := by rw [List.length_drop, HN.out]
  have HMET : ∀ (b : Bd) (but : Int) (st : Sh) (wx : World), Hd wx B G x (.slice (some ⟨gs, 0, none⟩) n scap) (.slice (some ⟨gb, 0, none⟩) N cap) { X with scores := st.sc, bodies := st.pl ++ X.bodies.drop n } → ShOk X.rows n X.scores st → Calls Try.prog 118 #[.pointer (some ⟨G, 0, none⟩), b.val, .int .i64 but] wx fun e w' => e = .returned (.int .i64 (metT st.pl b but)) ∧ Below wx.heap.size wx w' := fun b but st wx hx hs => by
    have := met_impl b but wx hx (by show st.sc.length ≤ (st.pl ++ X.bodies.drop n).length; rw [hs.sc.len, List.length_append, hs.pl.len]; omega) (by show (st.pl ++ X.bodies.drop n).length ≤ 1000; rw [List.length_append, hs.pl.len, hR]; omega)
    simp only [hs.sc.len, take_app hs.pl.len] at this
    exact this
  have HADD : ∀ (k : Nat) (st1 : List Int) (bs1 : List Bd) (wx : World), Hd wx B G x (.slice (some ⟨gs, 0, none⟩) n scap) (.slice (some ⟨gb, 0, none⟩) N cap) { X with scores := st1, bodies := bs1 } → Scs n st1 → k < n → Calls Try.prog 119 #[.pointer (some ⟨G, 0, none⟩), .int .i64 (k : Int)] wx fun e w' => e = .returned (.tuple #[]) ∧ Hd w' B G x (.slice (some ⟨gs, 0, none⟩) n scap) (.slice (some ⟨gb, 0, none⟩) N cap) { X with scores := addT st1 k, bodies := bs1 } ∧ Tch (fun i => (Value.slice (some ⟨gs, 0, none⟩) n scap).ownBlock = some i) wx w' := fun k st1 bs1 wx hx hs hk =>
    addscore_impl k wx hx (by show k < st1.length; rw [hs.len]; exact hk) (hs.at_ hk) (by show st1.length ≤ 1000; rw [hs.len]; omega)
  obtain ⟨F, hF0, hFM, hFS, hFB, hFO⟩ := sh_fold (n := n) (N := N) (bs := X.bodies) (sc := X.scores) HN.out hn hsc hB
  have hsz0 : B ≤ w.heap.size := by have := h.ge; have := h.blk.lt; omega
  have hlow := h.lt
  have hI : ShI w w.drew B G x (.slice (some ⟨gs, 0, none⟩) n scap) (.slice (some ⟨gb, 0, none⟩) N cap) X (X.bodies.drop n) (.slice none 0 0) (F 0) := by
    rw [hF0]
    refine ⟨?_, Own.nil _ _ _, (Below.refl _ _).drew, Nat.le_refl _⟩
    simp only [List.take_append_drop]
    exact h.drew
  have HFM := Lib.hid hFM.symm
  have HFS := Lib.hid hFS
  have HFB := Lib.hid hFB
  have HFO := Lib.hid hFO
  have HDR := Lib.hid (fun k => bAt_dropn (bs := X.bodies) (n := n) (k := k))
  clear hFM hFS hFB hF0 q3 q4 q3d q4d hFO
  generalize hplq : X.bodies.drop n = R at *
  have HPL := Lib.hid hplq
  clear hplq
  generalize hM : N - n = M at *
  have HM := Lib.hid hM
  have hM24 : M ≤ 24 := by omega
  have HR := Lib.hid hR
  clear hM hR
  go_wp2_with fail
  go_loopw [2, 18] (fun v i wr => ∃ k : Nat, k ≤ M ∧ i = .int .i64 k ∧ ShI w wr B G x (.slice (some ⟨gs, 0, none⟩) n scap) (.slice (some ⟨gb, 0, none⟩) N cap) X R v (F k)) (fun _ i _ => M - (intOf i).toNat)
  case atStart => exact ⟨0, Nat.zero_le _, rfl, hI⟩
  case round =>
    clear hI
    obtain ⟨k, hk, rfl, hI⟩ := hrel
    by_cases hlt : k < M
    · have HST := Lib.hid (HFS.out k hlt)
      have hao : ao = some ⟨gb, n * 9, none⟩ := hao2 (by omega)
      subst hao
      have hfb := HFB.out k
      have hot := HFO.out k hlt
      generalize F k = st at *
      obtain ⟨hH, hO, hb, hsz⟩ := hI
      obtain ⟨hok, hle1⟩ := hfb
      have hpln := hok.pl.len
      have hkN : n + k < (st.pl ++ R).length := by rw [List.length_append, hpln, HR.out]; omega
      have hE := hH.elemAt (k := n + k) hkN
      simp only at hE
      rw [bAt_app hpln, HDR.out] at hE
      have hR := hE.range
      rw [show (n + k) * 9 = n * 9 + k * 9 by omega] at hR
      have HYS := Lib.hid (sh_yes (s := st) (b := bAt X.bodies (n + k)))
      have HNS := Lib.hid (sh_no (s := st) (b := bAt X.bodies (n + k)))
      generalize bAt X.bodies (n + k) = b at *
      clear hE HFS HFB HFO HDR hkN
      have c1 : (0 : Int) ≤ (k : Int) := by omega
      have c2 : (k : Int) < (M : Int) := by omega
      go_upto_region 3 with (fail)
      apply wp_region_lit
      iterate 3 go_step
      refine load_bod (op := ⟨some 21, _, _, _, _, _⟩) rfl _ rfl gb (n * 9 + k * 9) rfl b hR ?_
      refine alloc_bod rfl rfl ?_
      have hBk := Blk.new wr 42 zB
      have hk0 : Below wr.heap.size wr (wr.alloc (.cells zB.cells.toArray 42)) := (Below.refl _ _).alloc (Nat.le_refl _) _
      change Blk (wr.alloc (.cells zB.cells.toArray 42)) wr.heap.size zB at hBk
      generalize World.alloc wr _ = w1 at hBk hk0
      refine store_bod (op := ⟨none, _, _, _, _, _⟩) rfl _ _ rfl wr.heap.size 0 rfl b rfl hBk.there ?_
      have hB2 := hBk.setAll b
      have hk1 : Below wr.heap.size wr (w1.setCells wr.heap.size 0 b.cells) := setCells_below hk0 (Nat.le_refl _)
      generalize World.setCells w1 _ _ _ = w2 at hB2 hk1
      have hH2 := hH.below hk1
      have hO2 := hO.belowS hk1
      have hb2 := hb.trans (hk1.mono (Nat.le_trans hsz0 hsz))
      have hsz2 := Nat.le_trans hsz hk1.size
      have hbq : w.heap.size ≤ wr.heap.size := hsz
      clear hBk hk0 hk1 hH hO hb hsz hR
      generalize wr.heap.size = bq at *
      have c0' := hB2.c0
      have c1' := hB2.c1
      by_cases hk2 : b.kind = 1
      · have x1 : (b.kind != 1) = false := by simp [hk2]
        replace hk2 := Lib.hid hk2
        go_upto_region 6 with (fail)
        apply wp_region_lit
        iterate 3 go_step
        refine load_bod (op := ⟨some 30, _, _, _, _, _⟩) rfl _ rfl bq 0 rfl b hB2.range ?_
        iterate 6 go_step
        refine wpList_callC rfl 118 _ _ rfl Try.func118 (by kernel_rfl) (by kernel_rfl) #[.pointer (some ⟨G, 0, none⟩), b.val, .int .i64 b.owner] (by kernel_rfl) (HMET b b.owner st w2 hH2 hok) ?_
        rintro e w3 ⟨rfl, hk3⟩
        refine ⟨_, rfl, ?_⟩
        have hH3 := hH2.below hk3
        have hO3 := hO2.belowS hk3
        have hb3 := hb2.trans (hk3.mono (Nat.le_trans hsz0 hsz2))
        have hsz3 := Nat.le_trans hsz2 hk3.size
        have hB3 := hB2.below hk3 hB2.lt
        clear hH2 hO2 hb2 hsz2 hB2 hk3 c0' c1' HMET
        have hbd := metT_bd st.pl b b.owner
        have hyes := fun hh => metT_yes (pl := st.pl) (b := b) (but := b.owner) hh
        rw [hpln] at hbd hyes
        have HY2 := Lib.hid (HYS.out hk2.out)
        have HN2 := Lib.hid (fun hneg : ¬ 0 ≤ metT st.pl b b.owner => HNS.out (fun e => hneg e.2))
        have hown := hot.owner
        clear HYS HNS hk2 x1 hot
        generalize metT st.pl b b.owner = z at *
        simp only [Act.put, List.setIfInBounds_toArray, List.set_cons_zero, List.set_cons_succ]
        by_cases hz0 : 0 ≤ z
        · obtain ⟨p, rfl⟩ : ∃ p : Nat, z = p := ⟨z.toNat, by omega⟩
          have HY3 := Lib.hid (HST.out.trans (HY2.out hz0))
          obtain ⟨hpn, hlf, _⟩ := hyes hz0
          rw [Int.toNat_natCast] at hpn hlf
          have hlf3 := (hok.pl.pl p hpn).life
          have hpB : p < (st.pl ++ R).length := by rw [List.length_append, hpln]; omega
          have hpl2 : p < st.pl.length := by rw [hpln]; exact hpn
          have hE3 := hH3.elemAt (k := p) hpB
          simp only at hE3
          rw [bAt_append hpl2] at hE3
          obtain ⟨c, hcq⟩ : ∃ c, bAt st.pl p = c := ⟨_, rfl⟩
          rw [hcq] at hE3 hlf hlf3
          have HCQ := Lib.hid hcq
          clear HST HY2 HN2 hcq hyes hbd
          have e7 := hE3.c7
          have e3 := hH3.blk.c4
          have b7 : (0 : Int) ≤ (p : Int) := by omega
          have b8 : (p : Int) < (N : Int) := by omega
          have hf7 := hH3.elemFree hpB (j := 7) (by omega)
          have HDEAD := Lib.hid (fun o => hit_dead (R := R) (sc := st.sc) (o := o) hpl2 HCQ.out)
          have HLIVE := Lib.hid (fun o => hit_live (R := R) (sc := st.sc) (o := o) hpl2 HCQ.out)
          have hq := hH3.elemF (k := p) (j := 7) hpB (by omega) { c with life := c.life - 1 } (.int .i64 (c.life - 1)) (by simp only; rw [bAt_append hpl2, HCQ.out]; rfl)
          go_upto_region 10 with (fail)
          apply wp_region_lit
          iterate 21 go_step
          refine store_cell (o := ⟨none, _, _, _, _, _⟩) rfl _ _ _ rfl gb (p * 9 + 7) rfl (.int .i64 (c.life - 1)) rfl rfl size_int e7 hf7 ?_
          generalize World.setCell w3 _ _ = w4 at hq
          obtain ⟨hH4, hg4⟩ := hq
          have hO4 := hO3.kept hg4 (.inr (fun e => by have := (hO3.ge _ e).1; omega))
          have hB4 := hB3.grown hg4 (by simp only [ne_eq, Option.some.injEq]; omega)
          have hb4 := hb3.grown hg4 (Nat.le_trans hsz0 hsz3) (fun j h => by simp only [Option.some.injEq] at h; have := (hlow gb (.inr (.inr (.inr rfl)))).1; omega)
          have hsz4 := Nat.le_trans hsz3 hg4.size
          clear hH3 hO3 hB3 hb3 hsz3 hg4 e7 e3 hf7 hE3
          simp only at hH4
          have hp4 : p < ((st.pl ++ R).set p { c with life := c.life - 1 }).length := by rw [List.length_set]; exact hpB
          have hE4 := hH4.elemAt (k := p) hp4
          simp only at hE4
          rw [bAt_set_self hpB] at hE4
          have e7 := hE4.c7
          simp only at e7
          by_cases hl1 : c.life - 1 = 0
          · obtain ⟨q, hq⟩ : ∃ q : Nat, b.owner = q := ⟨b.owner.toNat, by omega⟩
            obtain ⟨hd1, hd2⟩ := HDEAD.out b.owner hl1
            have HD1 := Lib.hid hd1
            have HD2 := Lib.hid hd2
            have HL1 := Lib.hid hl1
            have x2 : (c.life - 1 == 0) = true := by simp; omega
            have hAo := HADD q st.sc _ w4 hH4 hok.sc (by omega)
            rw [← hq] at hAo
            replace hq := Lib.hid hq
            have c1' := hB4.c1
            clear HDEAD HLIVE hl1 hd1 hd2
            go_upto_region 12 with (fail)
            apply wp_region_lit
            iterate 9 go_step
            refine wpList_callC rfl 119 _ _ rfl Try.func119 (by kernel_rfl) (by kernel_rfl) #[.pointer (some ⟨G, 0, none⟩), .int .i64 b.owner] (by kernel_rfl) hAo ?_
            rintro e w5 ⟨rfl, hH5, ht⟩
            refine ⟨_, rfl, ?_⟩
            have hO5 := hO4.tch ht (fun i hi e => by have := (hO4.ge i hi).1; have := hlow i (.inr (.inr (.inl e))); omega)
            have hb5 := hb4.trans (ht.below (Nat.le_trans hsz0 hsz4) fun i hi => (hlow i (.inr (.inr (.inl hi)))).1)
            have hsz5 := Nat.le_trans hsz4 ht.size
            clear hH4 hO4 hb4 hsz4 ht hAo c1' hB4 e7 hE4 HADD
            simp only [Act.put, List.setIfInBounds_toArray, List.set_cons_zero, List.set_cons_succ]
            have hp5 : p < ((st.pl ++ R).set p { c with life := c.life - 1 }).length := by simp only [List.length_set]; exact hpB
            have hE5 := hH5.elemAt (k := p) hp5
            simp only at hE5
            rw [bAt_set_self (by first | exact hpB | (simp only [List.length_set]; exact hpB))] at hE5
            have ef := hE5.c4
            have hff := hH5.elemFree hp5 (j := 4) (by omega)
            have hq := hH5.elemF (k := p) (j := 4) hp5 (by omega) { c with life := c.life - 1, vx := 0 } (.int .i64 0) (by simp only; rw [bAt_set_self (by first | exact hpB | (simp only [List.length_set]; exact hpB))]; rfl)
            go_upto_region 13 with (fail)
            apply wp_region_lit
            iterate 9 go_step
            refine store_cell (o := ⟨none, _, _, _, _, _⟩) rfl _ _ _ rfl gb (p * 9 + 4) rfl (.int .i64 0) rfl rfl size_int ef hff ?_
            generalize World.setCell w5 _ _ = w6 at hq
            obtain ⟨hH6, hg⟩ := hq
            have hO6 := hO5.kept hg (.inr (fun e => by have := (hO5.ge _ e).1; omega))
            have hb6 := hb5.grown hg (Nat.le_trans hsz0 hsz5) (fun j h => by simp only [Option.some.injEq] at h; have := (hlow gb (.inr (.inr (.inr rfl)))).1; omega)
            have hsz6 := Nat.le_trans hsz5 hg.size
            clear hH5 hO5 hb5 hsz5 hg ef hff hE5
            simp only at hH6
            have hp6 : p < (((st.pl ++ R).set p { c with life := c.life - 1 }).set p { c with life := c.life - 1, vx := 0 }).length := by simp only [List.length_set]; exact hpB
            have hE6 := hH6.elemAt (k := p) hp6
            simp only at hE6
            rw [bAt_set_self (by first | exact hpB | (simp only [List.length_set]; exact hpB))] at hE6
            have ef := hE6.c5
            have hff := hH6.elemFree hp6 (j := 5) (by omega)
            have hq := hH6.elemF (k := p) (j := 5) hp6 (by omega) { c with life := c.life - 1, vx := 0, vy := 0 } (.int .i64 0) (by simp only; rw [bAt_set_self (by first | exact hpB | (simp only [List.length_set]; exact hpB))]; rfl)
            go_upto_region 14 with (fail)
            apply wp_region_lit
            iterate 9 go_step
            refine store_cell (o := ⟨none, _, _, _, _, _⟩) rfl _ _ _ rfl gb (p * 9 + 5) rfl (.int .i64 0) rfl rfl size_int ef hff ?_
            generalize World.setCell w6 _ _ = w7 at hq
            obtain ⟨hH7, hg⟩ := hq
            have hO7 := hO6.kept hg (.inr (fun e => by have := (hO6.ge _ e).1; omega))
            have hb7 := hb6.grown hg (Nat.le_trans hsz0 hsz6) (fun j h => by simp only [Option.some.injEq] at h; have := (hlow gb (.inr (.inr (.inr rfl)))).1; omega)
            have hsz7 := Nat.le_trans hsz6 hg.size
            clear hH6 hO6 hb6 hsz6 hg ef hff hE6
            simp only at hH7
            have hp7 : p < ((((st.pl ++ R).set p { c with life := c.life - 1 }).set p { c with life := c.life - 1, vx := 0 }).set p { c with life := c.life - 1, vx := 0, vy := 0 }).length := by simp only [List.length_set]; exact hpB
            have hE7 := hH7.elemAt (k := p) hp7
            simp only at hE7
            rw [bAt_set_self (by first | exact hpB | (simp only [List.length_set]; exact hpB))] at hE7
            have ef := hE7.c8
            have hff := hH7.elemFree hp7 (j := 8) (by omega)
            have hq := hH7.elemF (k := p) (j := 8) hp7 (by omega) { c with life := c.life - 1, vx := 0, vy := 0, timer := 20 } (.int .i64 20) (by simp only; rw [bAt_set_self (by first | exact hpB | (simp only [List.length_set]; exact hpB))]; rfl)
            go_upto_region 15 with (fail)
            apply wp_region_lit
            iterate 9 go_step
            refine store_cell (o := ⟨none, _, _, _, _, _⟩) rfl _ _ _ rfl gb (p * 9 + 8) rfl (.int .i64 20) rfl rfl size_int ef hff ?_
            generalize World.setCell w7 _ _ = w8 at hq
            obtain ⟨hH8, hg⟩ := hq
            have hO8 := hO7.kept hg (.inr (fun e => by have := (hO7.ge _ e).1; omega))
            have hb8 := hb7.grown hg (Nat.le_trans hsz0 hsz7) (fun j h => by simp only [Option.some.injEq] at h; have := (hlow gb (.inr (.inr (.inr rfl)))).1; omega)
            have hsz8 := Nat.le_trans hsz7 hg.size
            clear hH7 hO7 hb7 hsz7 hg ef hff hE7
            simp only at hH8
            go_wp2_with fail
            go_roundw
            case rel =>
              refine ⟨k + 1, by omega, by go_num, ?_⟩
              rw [HY3.out, Int.toNat_natCast]
              refine ⟨?_, hO8, hb8, hsz8⟩
              simp only
              rw [HD1.out, HD2.out]
              exact hH8
            case measure => simp [intOf]; omega
          · obtain ⟨hd1, hd2⟩ := HLIVE.out b.owner hl1
            have HD1 := Lib.hid hd1
            have HD2 := Lib.hid hd2
            have x2 : (c.life - 1 == 0) = false := by simp; omega
            clear HDEAD HLIVE hl1 hd1 hd2 HADD
            go_wp2_with fail
            go_roundw
            case rel =>
              refine ⟨k + 1, by omega, by go_num, ?_⟩
              rw [HY3.out, Int.toNat_natCast]
              refine ⟨?_, hO4, hb4, hsz4⟩
              simp only
              rw [HD1.out, HD2.out]
              exact hH4
            case measure => simp [intOf]; omega
        · have HN3 := Lib.hid (HST.out.trans (HN2.out hz0))
          clear HST HY2 HN2 hyes
          go_upto_region 8 with (fail)
          apply wp_region_lit
          iterate 3 go_step
          refine load_bod (op := ⟨some 37, _, _, _, _, _⟩) rfl _ rfl bq 0 rfl b hB3.range ?_
          refine lit_bod (o := ⟨some 38, _, _, _, _, _⟩) rfl _ rfl b rfl ?_
          have hq := own_lit w3 b
          have hk4 : Below w3.heap.size w3 (w3.alloc (.cells b.cells.toArray 42)) := (Below.refl _ _).alloc (Nat.le_refl _) _
          generalize World.alloc w3 _ = w4 at hq hk4
          have hH4 := hH3.below hk4
          have hO4 := hO3.belowS hk4
          have hb4 := hb3.trans (hk4.mono (Nat.le_trans hsz0 hsz3))
          have hsz4 := Nat.le_trans hsz3 hk4.size
          clear hH3 hO3 hb3 hsz3 hk4
          obtain ⟨lo, lc, rfl⟩ := hO4.slice_
          refine app_bods (o := ⟨some 39, _, _, _, _, _⟩) w4 rfl _ _ rfl w.heap.size hO4 rfl hq.at_ rfl (by omega) hsz4 ?_
          intro v5 w5 hv hg hvb
          have hO5 : Own w5 w.heap.size 9 v5 (st.left ++ [b]).length (cellsB (st.left ++ [b])) := by rw [List.length_append]; exact hv
          have hH5 := hH4.tch (Tch.of_grown hg fun i hi => (show (fun i => w.heap.size ≤ i) i from (hO4.ge i hi).1)) (fun i hi e => by have := (hlow i hi).2; have e' : w.heap.size ≤ i := e; omega)
          have hb5 := hb4.grown hg (by omega) (fun j h => by have := (hO4.ge j h).1; omega)
          have hsz5 := Nat.le_trans hsz4 hg.size
          obtain ⟨vo, vc, rfl⟩ := hO5.slice_
          clear hv hg hvb hH4 hO4 hb4 hsz4 hq hB3
          simp only [Act.put, List.setIfInBounds_toArray, List.set_cons_zero, List.set_cons_succ]
          go_wp2_with fail
          go_roundw
          case rel => exact ⟨k + 1, by omega, by go_num, by rw [HN3.out]; exact ⟨hH5, hO5, hb5, hsz5⟩⟩
          case measure => simp [intOf]; omega
      · have HN3 := Lib.hid (HST.out.trans (HNS.out (fun e => hk2 e.1)))
        have x1 : (b.kind != 1) = true := by simp [hk2]
        clear HST HYS HNS
        go_upto_region 5 with (fail)
        apply wp_region_lit
        iterate 3 go_step
        refine load_bod (op := ⟨some 26, _, _, _, _, _⟩) rfl _ rfl bq 0 rfl b hB2.range ?_
        refine lit_bod (o := ⟨some 27, _, _, _, _, _⟩) rfl _ rfl b rfl ?_
        have hq := own_lit w2 b
        have hk4 : Below w2.heap.size w2 (w2.alloc (.cells b.cells.toArray 42)) := (Below.refl _ _).alloc (Nat.le_refl _) _
        generalize World.alloc w2 _ = w4 at hq hk4
        have hH4 := hH2.below hk4
        have hO4 := hO2.belowS hk4
        have hb4 := hb2.trans (hk4.mono (Nat.le_trans hsz0 hsz2))
        have hsz4 := Nat.le_trans hsz2 hk4.size
        clear hH2 hO2 hb2 hsz2 hk4
        obtain ⟨lo, lc, rfl⟩ := hO4.slice_
        refine app_bods (o := ⟨some 28, _, _, _, _, _⟩) w4 rfl _ _ rfl w.heap.size hO4 rfl hq.at_ rfl (by omega) hsz4 ?_
        intro v5 w5 hv hg hvb
        have hO5 : Own w5 w.heap.size 9 v5 (st.left ++ [b]).length (cellsB (st.left ++ [b])) := by rw [List.length_append]; exact hv
        have hH5 := hH4.tch (Tch.of_grown hg fun i hi => (show (fun i => w.heap.size ≤ i) i from (hO4.ge i hi).1)) (fun i hi e => by have := (hlow i hi).2; have e' : w.heap.size ≤ i := e; omega)
        have hb5 := hb4.grown hg (by omega) (fun j h => by have := (hO4.ge j h).1; omega)
        have hsz5 := Nat.le_trans hsz4 hg.size
        obtain ⟨vo, vc, rfl⟩ := hO5.slice_
        clear hv hg hvb hH4 hO4 hb4 hsz4 hq hB2
        simp only [Act.put, List.setIfInBounds_toArray, List.set_cons_zero, List.set_cons_succ]
        go_wp2_with fail
        go_roundw
        case rel => exact ⟨k + 1, by omega, by go_num, by rw [HN3.out]; exact ⟨hH5, hO5, hb5, hsz5⟩⟩
        case measure => simp [intOf]; omega
    · obtain rfl : k = M := by omega
      obtain ⟨hH, hO, hb, hsz⟩ := hI
      obtain ⟨hok, hle1⟩ := HFB.out k
      clear HMET HADD HFS HFB hao2 HFO
      generalize F k = st at *
      obtain ⟨lo, lc, rfl⟩ := hO.slice_
      go_upto_region 17 with (fail)
      have hHd := hH.drew
      have hOd := hO.drew
      have hbD := hb.drew
      have hszD : w.heap.size ≤ wr.drew.heap.size := hsz
      have e3 := hHd.blk.c3
      have e4 := hHd.blk.c4
      clear hH hO hb hsz
      refine wp_region_sch (fun wx => wx.cell? ⟨G, 4, none⟩ = some (.slice (some ⟨gb, 0, none⟩) N cap) ∧ wx.cell? ⟨G, 3, none⟩ = some (.slice (some ⟨gs, 0, none⟩) n scap)) 15 17 (.st 0 (.st 1 (.st 2 (.st 3 (.st 4 (.st 5 (.st 6 (.st 7 (.st 8 (.st 9 (.st 10 (.st 11 (.ef 12 (.st 13 (.st 14 (.fin [15])))))))))))))))) (by kernel_rfl) (by kernel_rfl) (fun _ _ d _ _ h => by cases d <;> exact h) ⟨e4, e3⟩ ?_
      refine sch_still (o := ⟨some 72, _, _, _, _, _⟩) (v := .pointer (some ⟨G, 0, none⟩)) rfl rfl ?_ ?_
      · intro wx hSx
        go_simp
      simp only [Act.put, List.setIfInBounds_toArray, List.set_cons_zero, List.set_cons_succ]
      refine sch_still (o := ⟨some 73, _, _, _, _, _⟩) (v := .pointer (some ⟨G, 0, none⟩)) rfl rfl ?_ ?_
      · intro wx hSx
        go_simp
      simp only [Act.put, List.setIfInBounds_toArray, List.set_cons_zero, List.set_cons_succ]
      refine sch_still (o := ⟨some 74, _, _, _, _, _⟩) (v := .pointer (some ⟨G, 0, none⟩)) rfl rfl ?_ ?_
      · intro wx hSx
        go_simp
      simp only [Act.put, List.setIfInBounds_toArray, List.set_cons_zero, List.set_cons_succ]
      refine sch_still (o := ⟨some 75, _, _, _, _, _⟩) (v := .pointer (some ⟨G, 4, none⟩)) rfl rfl ?_ ?_
      · intro wx hSx
        go_simp
      simp only [Act.put, List.setIfInBounds_toArray, List.set_cons_zero, List.set_cons_succ]
      refine sch_still (o := ⟨some 76, _, _, _, _, _⟩) (v := .slice (some ⟨gb, 0, none⟩) N cap) rfl rfl ?_ ?_
      · intro wx hSx
        obtain ⟨s1, s2⟩ := hSx; go_simp
      simp only [Act.put, List.setIfInBounds_toArray, List.set_cons_zero, List.set_cons_succ]
      refine sch_still (o := ⟨some 77, _, _, _, _, _⟩) (v := .pointer (some ⟨G, 0, none⟩)) rfl rfl ?_ ?_
      · intro wx hSx
        go_simp
      simp only [Act.put, List.setIfInBounds_toArray, List.set_cons_zero, List.set_cons_succ]
      refine sch_still (o := ⟨some 78, _, _, _, _, _⟩) (v := .pointer (some ⟨G, 0, none⟩)) rfl rfl ?_ ?_
      · intro wx hSx
        go_simp
      simp only [Act.put, List.setIfInBounds_toArray, List.set_cons_zero, List.set_cons_succ]
      refine sch_still (o := ⟨some 79, _, _, _, _, _⟩) (v := .pointer (some ⟨G, 3, none⟩)) rfl rfl ?_ ?_
      · intro wx hSx
        go_simp
      simp only [Act.put, List.setIfInBounds_toArray, List.set_cons_zero, List.set_cons_succ]
      refine sch_still (o := ⟨some 80, _, _, _, _, _⟩) (v := .slice (some ⟨gs, 0, none⟩) n scap) rfl rfl ?_ ?_
      · intro wx hSx
        obtain ⟨s1, s2⟩ := hSx; go_simp
      simp only [Act.put, List.setIfInBounds_toArray, List.set_cons_zero, List.set_cons_succ]
      refine sch_still (o := ⟨some 81, _, _, _, _, _⟩) (v := .int .i64 (n : Int)) rfl rfl ?_ ?_
      · intro wx hSx
        go_simp
      simp only [Act.put, List.setIfInBounds_toArray, List.set_cons_zero, List.set_cons_succ]
      refine sch_still (o := ⟨some 82, _, _, _, _, _⟩) (v := .slice (some ⟨gb, 0, none⟩) n cap) rfl rfl ?_ ?_
      · intro wx hSx
        go_simp
      simp only [Act.put, List.setIfInBounds_toArray, List.set_cons_zero, List.set_cons_succ]
      refine sch_still (o := ⟨some 83, _, _, _, _, _⟩) (v := .slice lo st.left.length lc) rfl rfl ?_ ?_
      · intro wx hSx
        go_simp
      simp only [Act.put, List.setIfInBounds_toArray, List.set_cons_zero, List.set_cons_succ]
      generalize wr.drew = wq at *
      refine sch_ef (o := ⟨some 84, _, _, _, _, _⟩) rfl ?_
      have hpre := hHd.prefixB (k := n) (by show n ≤ (st.pl ++ R).length; rw [List.length_append, hok.pl.len]; omega)
      simp only [take_app hok.pl.len] at hpre
      refine app_bods (o := ⟨some 84, _, _, _, _, _⟩) wq rfl _ _ rfl B hpre rfl hOd.at_ rfl (by omega) (by omega) ?_
      intro v5 w5 hv hg hvb
      have hH5 := hHd.appB hv hg hvb
      have g4 := (hHd.blk.grown hg hHd.n3).c4
      have g3 := (hHd.blk.grown hg hHd.n3).c3
      have p4 := (hHd.blk.grown hg hHd.n3).f4
      have ov := slice_one hv.at_
      clear hv hg hvb
      refine sch_next ⟨g4, g3⟩ ?_
      simp only [Act.put, List.setIfInBounds_toArray, List.set_cons_zero, List.set_cons_succ]
      refine sch_still (o := ⟨some 85, _, _, _, _, _⟩) (v := .pointer (some ⟨G, 0, none⟩)) rfl rfl ?_ ?_
      · intro wx hSx
        go_simp
      simp only [Act.put, List.setIfInBounds_toArray, List.set_cons_zero, List.set_cons_succ]
      refine sch_still (o := ⟨some 86, _, _, _, _, _⟩) (v := .pointer (some ⟨G, 4, none⟩)) rfl rfl ?_ ?_
      · intro wx hSx
        go_simp
      simp only [Act.put, List.setIfInBounds_toArray, List.set_cons_zero, List.set_cons_succ]
      refine sch_end (.cons (o := ⟨none, _, _, _, _, _⟩) rfl .nil) ?_
      refine store_cell (o := ⟨none, _, _, _, _, _⟩) rfl _ _ _ rfl G 4 rfl v5 rfl ov size_bods g4 p4 ?_
      generalize World.setCell w5 _ _ = w6 at hH5
      obtain ⟨hH6, ht⟩ := hH5
      have hb6 := hbD.trans (hHd.tchBelow ht (fun i hi => hi.imp id fun e => .inr (.inr e)))
      clear hHd hOd hbD e3 e4 g3 g4 p4 ov ht
      go_wp2_with fail
      refine Great.bodyPost_end0 rfl rfl ⟨rfl, ⟨v5, ?_⟩, hb6⟩
      rw [HPL.out, HFM.out]
      exact hH6
end Go.Proofs.Ytmamihkcikgmcaa
