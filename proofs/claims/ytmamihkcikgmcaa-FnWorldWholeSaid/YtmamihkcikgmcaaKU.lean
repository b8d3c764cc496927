/- Texts Rdl, Rdi in one. -/
import Derived.Test.YtmamihkcikgmcaaKH
import Derived.Test.YtmamihkcikgmcaaKJ
import Derived.Test.YtmamihkcikgmcaaKT
import Derived.Test.YtmamihkcikgmcaaKZ1
/- ReadWorld: plain lemmas; a world in the making beside the list that is read. No walk. -/
namespace Go.Proofs.Ytmamihkcikgmcaa
open Go.RowKit

theorem unpI_okS (s : ByteArray) : okS (unpI s 0).1 = true := by
  have hd0 : decA s ((0 : Nat) : Int) = decV s.data.toList := by rw [decA_nat, List.drop_zero]
  rcases decV_cases s.data.toList with hd | ⟨v, k, hd, _, _⟩
  · rw [hd] at hd0
    have := unpI_no hd0
    rw [show ((0 : Nat) : Int) = 0 from rfl] at this
    rw [this]
    rfl
  · rw [hd] at hd0
    have ha := unpI_at hd0
    rw [show ((0 : Nat) : Int) = 0 from rfl, Nat.zero_add] at ha
    cases hr : rdI v (s.data.toList.drop k) with
    | none => rw [hr] at ha; rw [ha]; rfl
    | some x => rw [hr] at ha; rw [ha]; exact (rdI_pack hr).2
theorem unpI_len (s : ByteArray) : (unpI s 0).1.length ≤ s.size := by
  have hd0 : decA s ((0 : Nat) : Int) = decV s.data.toList := by rw [decA_nat, List.drop_zero]
  have hsz : s.data.toList.length = s.size := by rw [Array.length_toList]; rfl
  rcases decV_cases s.data.toList with hd | ⟨v, k, hd, _, _⟩
  · rw [hd] at hd0
    have := unpI_no hd0
    rw [show ((0 : Nat) : Int) = 0 from rfl] at this
    rw [this]
    exact Nat.zero_le _
  · rw [hd] at hd0
    have ha := unpI_at hd0
    rw [show ((0 : Nat) : Int) = 0 from rfl, Nat.zero_add] at ha
    cases hr : rdI v (s.data.toList.drop k) with
    | none => rw [hr] at ha; rw [ha]; exact Nat.zero_le _
    | some x =>
      rw [hr] at ha
      rw [ha]
      obtain ⟨c1, c2, c3⟩ := rdI_len hr
      rw [List.length_drop] at c2
      show x.1.length ≤ _
      omega
theorem okS_bd {l : List Int} (h : okS l = true) (k : Nat) : -549755813888 ≤ iAt l k ∧ iAt l k ≤ 549755813887 := by
  by_cases hk : k < l.length
  · have h1 := List.all_eq_true.1 h (iAt l k) (by rw [iAt_eq hk]; exact List.getElem_mem _)
    simp only [decide_eq_true_eq] at h1
    generalize iAt l k = x at h1
    by_cases e : x < -549755813888 ∨ 549755813887 < x
    · rw [signless_out e] at h1; omega
    · omega
  · have : iAt l k = 0 := by unfold iAt List.getD; rw [List.getElem?_eq_none (by omega)]; rfl
    omega
theorem iAt_drop (l : List Int) (a k : Nat) : iAt (l.drop a) k = iAt l (a + k) := by unfold iAt List.getD; rw [List.getElem?_drop]
theorem iAt_take {l : List Int} {n k : Nat} (h : k < n) : iAt (l.take n) k = iAt l k := by unfold iAt List.getD; rw [List.getElem?_take, if_pos h]
theorem okS_drop {l : List Int} (h : okS l = true) (a k : Nat) : -549755813888 ≤ iAt (l.drop a) k ∧ iAt (l.drop a) k ≤ 549755813887 := by rw [iAt_drop]; exact okS_bd h _
theorem bdsF_wf : ∀ (n : Nat) {l : List Int}, okS l = true → ∀ b ∈ bdsF n l, BWf b
  | 0, l, _, b, hb => by simp [bdsF] at hb
  | n + 1, l, h, b, hb => by
    rw [bdsF, List.mem_cons] at hb
    rcases hb with rfl | hb
    · have h2 := okS_bd h 2
      have h3 := okS_bd h 3
      exact ⟨⟨by show _ ≤ iAt l 2; omega, by show iAt l 2 ≤ _; omega⟩, ⟨by show _ ≤ iAt l 3; omega, by show iAt l 3 ≤ _; omega⟩⟩
    · refine bdsF_wf n ?_ b hb
      unfold okS at h ⊢
      exact List.all_eq_true.2 fun x hx => List.all_eq_true.1 h x (List.mem_of_mem_drop hx)
theorem Own.iAt_cell {w : World} {B g n cap : Nat} {l : List Int} (h : Own w B 1 (.slice (some ⟨g, 0, none⟩) n cap) n (ints l)) {k : Nat} (hk : k < l.length) : w.cell? ⟨g, k, none⟩ = some (.int .i64 (iAt l k)) := by
  have hl := h.len
  rw [h.cell (by simp [ints] at hl; omega), iAt_eq hk]
  unfold ints
  rw [List.getElem?_map, List.getElem?_eq_getElem hk]
  rfl
theorem At.iAt_cell {w : World} {v : Value} {l : List Int} (h : At w 1 v l.length (ints l)) (h0 : 0 < l.length) : ∃ g off cap, v = .slice (some ⟨g, off, none⟩) l.length cap ∧ g < w.heap.size ∧ ∀ k, k < l.length → w.cell? ⟨g, off + k, none⟩ = some (.int .i64 (iAt l k)) := by
  obtain ⟨_, ao, cap, rfl, hn, _, hc⟩ := h
  obtain ⟨g, off, rfl, hg, hc⟩ := hc (by omega)
  refine ⟨g, off, cap, rfl, hg, fun k hk => ?_⟩
  rw [hc k (by omega), iAt_eq hk]
  unfold ints
  rw [List.getElem?_map, List.getElem?_eq_getElem hk]
  rfl
theorem readOk_ok {s : ByteArray} (h : (unpI s 0).2.2 = false) : readOk s = false := by unfold readOk; rw [h]; rfl
theorem readOk_sz {s : ByteArray} (h : (unpI s 0).2.1 ≠ (s.size : Int)) : readOk s = false := by unfold readOk; rw [decide_eq_false h]; simp
theorem readOk_fit {s : ByteArray} (h : ¬ fitL (unpI s 0).1) : readOk s = false := by unfold readOk; rw [decide_eq_false h]; simp
theorem readOk_yes {s : ByteArray} (h1 : (unpI s 0).2.2 = true) (h2 : (unpI s 0).2.1 = (s.size : Int)) (h3 : fitL (unpI s 0).1) : readOk s = true := by unfold readOk; rw [h1, decide_eq_true h2, decide_eq_true h3]; rfl
/-- the world that the first n bodies give -/
def mkN (rows : List ByteArray) (l : List Int) (m n : Nat) : Wd := ⟨rows, iAt l 0, iAt l 1, (l.drop 3).take m, bdsF n (l.drop (3 + m))⟩
theorem mkN_end {rows : List ByteArray} {l : List Int} {m : Nat} (h : iAt l 2 = (m : Int)) : mkN rows l m ((l.length - (3 + m)) / 9) = mkW rows l := by
  unfold mkN mkW
  rw [h, Int.toNat_natCast]
def rowB (l : List Int) : Bd := ⟨iAt l 0, iAt l 1, iAt l 2, iAt l 3, iAt l 4, iAt l 5, iAt l 6, iAt l 7, iAt l 8⟩
theorem mkN_succ (l : List Int) (m n : Nat) : bdsF (n + 1) (l.drop (3 + m)) = bdsF n (l.drop (3 + m)) ++ [rowB (((l.drop (3 + m)).drop (9 * n)).take 9)] := by
  rw [bdsF_succ]
  unfold rowB
  rw [show 9 * n = n * 9 by omega]
  rw [iAt_take (by omega), iAt_take (by omega), iAt_take (by omega), iAt_take (by omega), iAt_take (by omega), iAt_take (by omega), iAt_take (by omega), iAt_take (by omega), iAt_take (by omega)]
theorem rowB_drop (l : List Int) (a : Nat) : rowB ((l.drop a).take 9) = ⟨iAt l a, iAt l (a + 1), iAt l (a + 2), iAt l (a + 3), iAt l (a + 4), iAt l (a + 5), iAt l (a + 6), iAt l (a + 7), iAt l (a + 8)⟩ := by
  unfold rowB
  rw [iAt_take (by omega), iAt_take (by omega), iAt_take (by omega), iAt_take (by omega), iAt_take (by omega), iAt_take (by omega), iAt_take (by omega), iAt_take (by omega), iAt_take (by omega)]
  simp only [iAt_drop, Nat.add_zero]
theorem mkN_small {rows : List ByteArray} {l : List Int} {m n : Nat} (hm : rows.length ≤ 1048576) (hz : ∀ s ∈ rows, s.size ≤ 1048576) (h1 : m ≤ 4) (h2 : n ≤ 1048576) : WSmall (mkN rows l m n) := ⟨hm, hz, by unfold mkN; simp only [List.length_take]; omega, by unfold mkN; simp only [bdsF_len]; exact h2⟩
theorem mkW_most {rows : List ByteArray} {l : List Int} {m : Nat} (h : iAt l 2 = (m : Int)) (hn : 24 < (l.length - (3 + m)) / 9) : okW (mkW rows l) = false := by
  cases e : okW (mkW rows l) with
  | false => rfl
  | true =>
    have := (okW_ok e).bods.most
    rw [← mkN_end h] at this
    unfold mkN at this
    simp only [bdsF_len] at this
    omega
/-- the world in the making: behind a pointer, its slices owned -/
structure RdI (wa wx : World) (X : Wd) (p : Value) : Prop where
  ex : ∃ G x, p = .pointer (some ⟨G, 0, none⟩) ∧ Hd wx wa.heap.size G x nilV nilV X
  bl : Below wa.heap.size wa wx
structure RdJ (wa wx : World) (G : Nat) (X : Wd) : Prop where
  ex : ∃ x xs xb, Hd wx wa.heap.size G x xs xb X
  bl : Below wa.heap.size wa wx
/-- a new world behind a pointer -/
theorem Hd.new {wn : World} {B G : Nat} {x : Value} {l : List ByteArray} {tk sd : Int} (hG : WBlk wn G x tk sd nilV nilV) (hx : Own wn B 1 x l.length (l.map Value.string)) (hn : x.ownBlock ≠ some G) (hB : B ≤ G) : Hd wn B G x nilV nilV ⟨l, tk, sd, [], []⟩ :=
  ⟨hG, ⟨hx, Own.nil _ _ _, Own.nil _ _ _, Dj.symm (.inl rfl), Dj.symm (.inl rfl), .inl rfl⟩, hn, (fun e => by cases e), (fun e => by cases e), hB⟩
theorem grown_none {w w' : World} (h : Below w.heap.size w w') : w.grownBy w' none := ⟨h.os, h.tape, h.output, h.size, fun i hi _ => h.block i hi⟩
/-- new scores -/
theorem Hd.putS {w w' : World} {B G : Nat} {x xb v : Value} {X : Wd} (h : Hd w B G x nilV xb X) {sc : List Int} (hk : Below w.heap.size w w') (hv : Own w' w.heap.size 1 v sc.length (ints sc)) (hB : B ≤ w.heap.size) :
    Hd (w'.setCell ⟨G, 3, none⟩ v) B G x v xb { X with scores := sc } ∧ Below B w (w'.setCell ⟨G, 3, none⟩ v) := by
  have h1 := h.appS (hv.mono hB) (grown_none hk) (by
    cases e : v.ownBlock with
    | none => exact .inl rfl
    | some g => exact .inr ⟨g, rfl, (hv.ge g e).1⟩)
  exact ⟨h1.1, h1.2.below hB (fun i hi => by rcases hi with rfl | hi; (· exact h.ge); (· cases hi))⟩
end Go.Proofs.Ytmamihkcikgmcaa
/- ReadWorld, the program's. -/
namespace Go.Proofs.Ytmamihkcikgmcaa
open Go.RowKit
set_option maxRecDepth 100000 in
set_option maxHeartbeats 16000000 in
theorem readworld_impl {u : Value} {l : List ByteArray} (s : ByteArray) (w : World) (h : At w 1 u l.length (l.map Value.string)) (hm : l.length ≤ 1048576) (hz : ∀ s ∈ l, s.size ≤ 1048576) (hs : s.size ≤ 1048576) :
    Calls Try.prog 37 #[.agg #[u], .string s] w fun e w' => ∃ x xs xb, e = .returned (.tuple #[.agg #[x, .int .i64 (readW l s).1.tick, .int .i64 (readW l s).1.seed, xs, xb], .bool (readW l s).2]) ∧ WOwn w' w.heap.size x xs xb (readW l s).1 ∧ Below w.heap.size w w' := by
  have HC : ∀ wx, Below w.heap.size w wx → Calls Try.prog 72 #[.agg #[u]] wx fun e w' => ∃ x, e = .returned (.agg #[x]) ∧ Own w' wx.heap.size 1 x l.length (l.map Value.string) ∧ Below wx.heap.size wx w' := fun wx hx => copylev_impl wx (h.below hx) hm
  have HU : ∀ wx, Calls Try.prog 92 #[.string s, .int .i64 0] wx fun e w' => ∃ u, e = .returned (.tuple #[u, .int .i64 (unpI s 0).2.1, .bool (unpI s 0).2.2]) ∧ Own w' wx.heap.size 1 u (unpI s 0).1.length (ints (unpI s 0).1) ∧ Below wx.heap.size wx w' := fun wx => upk_impl s 0 wx (by omega)
  have HNO := Lib.hid (readW_no (rows := l) (s := s))
  have HBAD := Lib.hid (fun hw => readW_bad (rows := l) (s := s) rfl hw)
  have HYES := Lib.hid (fun h1 hw => readW_yes (rows := l) (s := s) rfl h1 hw)
  have HSA := Lib.hid (fun h1 hw => bytes_same (rows := l) (s := s) rfl h1 hw)
  have HOT := Lib.hid (fun h1 hw => bytes_other (rows := l) (s := s) rfl h1 hw)
  have HR1 := Lib.hid (readOk_ok (s := s))
  have HR2 := Lib.hid (readOk_sz (s := s))
  have HR3 := Lib.hid (readOk_fit (s := s))
  have HR4 := Lib.hid (readOk_yes (s := s))
  have HOK := Lib.hid (unpI_okS s)
  have hlm := unpI_len s
  generalize (unpI s 0).1 = L at *
  generalize (unpI s 0).2.1 = z at *
  generalize (unpI s 0).2.2 = ok at *
  go_enter Try.func37, Try.ntmps37
  go_upto_region 1 with (fail)
  generalize hw1 : (w.alloc _).alloc _ = w1
  have hb1 : Below w.heap.size w w1 := by rw [← hw1]; exact ((Below.refl _ _).alloc (Nat.le_refl _) _).alloc (by simp) _
  have hL1 : w1.cell? ⟨w.heap.size, 0, none⟩ = some u := by rw [← hw1]; exact cell_alloc_lt (World.cell?_alloc_new w _ _ 0) _ (by simp)
  have hR1 : WBlk w1 (w.heap.size + 1) nilV 0 0 nilV nilV := by
    rw [← hw1]
    have := WBlk.new (w.alloc (.cells #[u] 27)) 36 nilV 0 0 nilV nilV
    rwa [show (w.alloc (.cells #[u] 27)).heap.size = w.heap.size + 1 by simp] at this
  clear hw1
  apply wp_region_lit
  iterate 3 go_step
  refine wpList_callC rfl 92 _ _ rfl Try.func92 (by kernel_rfl) (by kernel_rfl) #[.string s, .int .i64 0] (by kernel_rfl) (HU w1) ?_
  rintro e wa ⟨v, rfl, hv, hk⟩
  refine ⟨_, rfl, ?_⟩
  have hb := hb1.trans (hk.mono hb1.size)
  have hR := hR1.below hk hR1.lt
  have hlt1 := hR1.lt
  have hL : wa.cell? ⟨w.heap.size, 0, none⟩ = some u := (hk.cell (p := ⟨w.heap.size, 0, none⟩) (by show w.heap.size < _; omega)).trans hL1
  have hsz : w.heap.size + 2 ≤ wa.heap.size := by have := hk.size; omega
  obtain ⟨_, ao, cap, rfl, hcn, hcm, _⟩ := id hv.at_
  clear hb1 hL1 hR1 hk HU hlt1 hcn hcm
  simp only [Act.put, List.setIfInBounds_toArray, List.set_cons_zero, List.set_cons_succ]
  go_upto_region 2 with (fail)
  cases ok with
  | false =>
    have HN := Lib.hid (HNO.out (HR1.out rfl))
    go_upto_region 3 with (fail)
    have hRs := (hR.setAll (u' := nilV) (us' := nilV) (ub' := nilV) (tk' := 0) (sd' := 0)).range
    have hbs := setCells_below (o := 0) (vs := wcells nilV 0 0 nilV nilV) hb (show w.heap.size ≤ w.heap.size + 1 by omega)
    have hRt := hR.there
    apply wp_region_lit
    iterate 3 go_step
    refine store_wld (op := ⟨none, _, _, _, _, _⟩) rfl _ _ rfl (w.heap.size + 1) rfl nilV 0 0 nilV nilV rfl hRt rfl rfl rfl ?_
    generalize hwn : World.setCells _ _ _ _ = wn
    rw [hwn] at hRs hbs
    clear hwn
    repeat go_step
    refine bodyPost_ret (res_wld2 rfl rfl rfl hRs) rfl ?_
    exact ⟨nilV, nilV, nilV, by rw [HN.out]; rfl, by rw [HN.out]; exact wown_nil _ _, hbs⟩
  | true =>
  by_cases hzz : z = (s.size : Int)
  rotate_left
  · have HN := Lib.hid (HNO.out (HR2.out hzz))
    have x1 : (z != (s.size : Int)) = true := bne_iff_ne.2 hzz
    go_upto_region 3 with (fail)
    have hRs := (hR.setAll (u' := nilV) (us' := nilV) (ub' := nilV) (tk' := 0) (sd' := 0)).range
    have hbs := setCells_below (o := 0) (vs := wcells nilV 0 0 nilV nilV) hb (show w.heap.size ≤ w.heap.size + 1 by omega)
    have hRt := hR.there
    apply wp_region_lit
    iterate 3 go_step
    refine store_wld (op := ⟨none, _, _, _, _, _⟩) rfl _ _ rfl (w.heap.size + 1) rfl nilV 0 0 nilV nilV rfl hRt rfl rfl rfl ?_
    generalize hwn : World.setCells _ _ _ _ = wn
    rw [hwn] at hRs hbs
    clear hwn
    repeat go_step
    refine bodyPost_ret (res_wld2 rfl rfl rfl hRs) rfl ?_
    exact ⟨nilV, nilV, nilV, by rw [HN.out]; rfl, by rw [HN.out]; exact wown_nil _ _, hbs⟩
  by_cases hl3 : L.length < 3
  · have HN := Lib.hid (HNO.out (HR3.out fun e => by have := e.1; omega))
    subst hzz
    have x1 : decide ((L.length : Int) < 3) = true := decide_eq_true (by omega)
    go_upto_region 3 with (fail)
    have hRs := (hR.setAll (u' := nilV) (us' := nilV) (ub' := nilV) (tk' := 0) (sd' := 0)).range
    have hbs := setCells_below (o := 0) (vs := wcells nilV 0 0 nilV nilV) hb (show w.heap.size ≤ w.heap.size + 1 by omega)
    have hRt := hR.there
    apply wp_region_lit
    iterate 3 go_step
    refine store_wld (op := ⟨none, _, _, _, _, _⟩) rfl _ _ rfl (w.heap.size + 1) rfl nilV 0 0 nilV nilV rfl hRt rfl rfl rfl ?_
    generalize hwn : World.setCells _ _ _ _ = wn
    rw [hwn] at hRs hbs
    clear hwn
    repeat go_step
    refine bodyPost_ret (res_wld2 rfl rfl rfl hRs) rfl ?_
    exact ⟨nilV, nilV, nilV, by rw [HN.out]; rfl, by rw [HN.out]; exact wown_nil _ _, hbs⟩
  have x1 : decide ((L.length : Int) < 3) = false := decide_eq_false (by omega)
  subst hzz
  obtain ⟨g, rfl, hgw⟩ : ∃ g, ao = some ⟨g, 0, none⟩ ∧ g < wa.heap.size := by
    rcases hv.val with ⟨_, e⟩ | ⟨g, cap', e, _, hg, _⟩
    · omega
    · simp only [Value.slice.injEq] at e
      exact ⟨g, e.1, hg⟩
  have hcell := fun k hk => hv.iAt_cell (k := k) hk
  have e2 := hcell 2 (by omega)
  obtain ⟨n, hn⟩ : ∃ n, iAt L 2 = n := ⟨_, rfl⟩
  rw [hn] at e2
  go_upto_region 5 with (fail)
  clear x1 e2
  go_wp2_with fail
  refine (between_any _ _ _ _).mono ?_
  rintro e wx ⟨rfl, rfl⟩
  cases hin : inB n 1 4 with
  | false =>
    have HN := Lib.hid (HNO.out (HR3.out fun e => by unfold fitL at e; rw [hn] at e; have := inB_yes e.2.1 e.2.2.1; rw [hin] at this; cases this))
    go_upto_region 6 with (fail)
    have hRs := (hR.setAll (u' := nilV) (us' := nilV) (ub' := nilV) (tk' := 0) (sd' := 0)).range
    have hbs := setCells_below (o := 0) (vs := wcells nilV 0 0 nilV nilV) hb (show w.heap.size ≤ w.heap.size + 1 by omega)
    have hRt := hR.there
    apply wp_region_lit
    iterate 3 go_step
    refine store_wld (op := ⟨none, _, _, _, _, _⟩) rfl _ _ rfl (w.heap.size + 1) rfl nilV 0 0 nilV nilV rfl hRt rfl rfl rfl ?_
    generalize hwn : World.setCells _ _ _ _ = wn
    rw [hwn] at hRs hbs
    clear hwn
    repeat go_step
    refine bodyPost_ret (res_wld2 rfl rfl rfl hRs) rfl ?_
    exact ⟨nilV, nilV, nilV, by rw [HN.out]; rfl, by rw [HN.out]; exact wown_nil _ _, hbs⟩
  | true =>
  have hn2 := inB_iff.1 hin
  clear hin
  obtain ⟨m, rfl⟩ : ∃ m : Nat, n = m := ⟨n.toNat, by omega⟩
  by_cases hl4 : L.length < 3 + m
  · have HN := Lib.hid (HNO.out (HR3.out fun e => by unfold fitL at e; have := e.2.2.2.1; rw [hn, Int.toNat_natCast] at this; omega))
    have x1 : decide ((L.length : Int) < 3 + (m : Int)) = true := decide_eq_true (by omega)
    go_upto_region 6 with (fail)
    have hRs := (hR.setAll (u' := nilV) (us' := nilV) (ub' := nilV) (tk' := 0) (sd' := 0)).range
    have hbs := setCells_below (o := 0) (vs := wcells nilV 0 0 nilV nilV) hb (show w.heap.size ≤ w.heap.size + 1 by omega)
    have hRt := hR.there
    apply wp_region_lit
    iterate 3 go_step
    refine store_wld (op := ⟨none, _, _, _, _, _⟩) rfl _ _ rfl (w.heap.size + 1) rfl nilV 0 0 nilV nilV rfl hRt rfl rfl rfl ?_
    generalize hwn : World.setCells _ _ _ _ = wn
    rw [hwn] at hRs hbs
    clear hwn
    repeat go_step
    refine bodyPost_ret (res_wld2 rfl rfl rfl hRs) rfl ?_
    exact ⟨nilV, nilV, nilV, by rw [HN.out]; rfl, by rw [HN.out]; exact wown_nil _ _, hbs⟩
  have x1 : decide ((L.length : Int) < 3 + (m : Int)) = false := decide_eq_false (by omega)
  have e0 := hcell 0 (by omega)
  have e1 := hcell 1 (by omega)
  clear hcell
  go_upto_region 7 with (fail)
  clear x1
  have hbd := hb.drew
  have hRd := hR.drew
  have hB0 := (Below.refl wa.heap.size wa).drew
  have hatL := hv.at_
  go_cut [10] (fun p wx => RdI wa wx ⟨l, iAt L 0, iAt L 1, [], []⟩ p)
  case first =>
    refine wp_region_sch (fun wx => Below wa.heap.size wa wx) 10 6 (.st 0 (.st 2 (.st 3 (.st 4 (.st 5 (.st 6 (.st 7 (.two 1 (.st 8 (.ef 9 (.fin [10]))) 9 (.ef 1 (.st 8 (.fin [10]))))))))))) (by kernel_rfl) (by kernel_rfl) (fun _ _ d _ _ h => by cases d <;> exact h) hB0 ?_
    refine sch_still (o := ⟨some 48, _, _, _, _, _⟩) (v := .agg #[u]) rfl rfl ?_ ?_
    · intro wx hSx
      have c := (hSx.cell (p := ⟨w.heap.size, 0, none⟩) (by show w.heap.size < _; omega)).trans hL; go_simp
    simp only [Act.put, List.setIfInBounds_toArray, List.set_cons_zero, List.set_cons_succ]
    refine sch_still (o := ⟨some 50, _, _, _, _, _⟩) (v := .slice (some ⟨g, 0, none⟩) L.length cap) rfl rfl ?_ ?_
    · intro wx hSx
      go_simp
    simp only [Act.put, List.setIfInBounds_toArray, List.set_cons_zero, List.set_cons_succ]
    refine sch_still (o := ⟨some 51, _, _, _, _, _⟩) (v := .pointer (some ⟨g, 0, none⟩)) rfl rfl ?_ ?_
    · intro wx hSx
      go_simp; intro e; rw [e] at hl3; simp at hl3
    simp only [Act.put, List.setIfInBounds_toArray, List.set_cons_zero, List.set_cons_succ]
    refine sch_still (o := ⟨some 52, _, _, _, _, _⟩) (v := .int .i64 (iAt L 0)) rfl rfl ?_ ?_
    · intro wx hSx
      have c := (hSx.cell (p := ⟨g, 0, none⟩) hgw).trans e0; go_simp
    simp only [Act.put, List.setIfInBounds_toArray, List.set_cons_zero, List.set_cons_succ]
    refine sch_still (o := ⟨some 53, _, _, _, _, _⟩) (v := .slice (some ⟨g, 0, none⟩) L.length cap) rfl rfl ?_ ?_
    · intro wx hSx
      go_simp
    simp only [Act.put, List.setIfInBounds_toArray, List.set_cons_zero, List.set_cons_succ]
    refine sch_still (o := ⟨some 54, _, _, _, _, _⟩) (v := .pointer (some ⟨g, 1, none⟩)) rfl rfl ?_ ?_
    · intro wx hSx
      go_simp; intro e; omega
    simp only [Act.put, List.setIfInBounds_toArray, List.set_cons_zero, List.set_cons_succ]
    refine sch_still (o := ⟨some 55, _, _, _, _, _⟩) (v := .int .i64 (iAt L 1)) rfl rfl ?_ ?_
    · intro wx hSx
      have c := (hSx.cell (p := ⟨g, 1, none⟩) hgw).trans e1; go_simp
    simp only [Act.put, List.setIfInBounds_toArray, List.set_cons_zero, List.set_cons_succ]
    have hwz : wa.drew.heap.size = wa.heap.size := rfl
    refine sch_2 (o := ⟨some 49, _, _, _, _, _⟩) (p := ⟨some 10, _, _, _, _, _⟩) rfl rfl ?_ ?_
    · refine wpList_callC rfl 72 _ _ rfl Try.func72 (by kernel_rfl) (by kernel_rfl) #[.agg #[u]] (by kernel_rfl) (HC _ hbd) ?_
      rintro e wb ⟨x, rfl, hx, hk⟩
      refine ⟨_, rfl, ?_⟩
      rw [hwz] at hx hk
      have hB1 : Below wa.heap.size wa wb := hB0.trans hk
      have hxg := hx.ge
      refine sch_next hB1 ?_
      simp only [Act.put, List.setIfInBounds_toArray, List.set_cons_zero, List.set_cons_succ]
      refine sch_still (o := ⟨some 56, _, _, _, _, _⟩) (v := .agg #[x, .int .i64 (iAt L 0), .int .i64 (iAt L 1), nilV, nilV]) rfl rfl ?_ ?_
      · intro wx hSx
        go_simp; rfl
      simp only [Act.put, List.setIfInBounds_toArray, List.set_cons_zero, List.set_cons_succ]
      refine sch_ef (o := ⟨some 10, _, _, _, _, _⟩) rfl ?_
      refine alloc_wld rfl rfl ?_
      have hG := WBlk.new wb 36 nilV 0 0 nilV nilV
      have hk2 : Below wb.heap.size wb (wb.alloc (.cells #[nilV, .int .i64 0, .int .i64 0, nilV, nilV] 36)) := (Below.refl _ _).alloc (Nat.le_refl _) _
      generalize World.alloc wb _ = wd at hG hk2
      have hB2 := hB1.trans (hk2.mono hB1.size)
      have hx2 := hx.belowS hk2
      have hGl := hG.lt
      have hz1 := hB1.size
      refine sch_next hB2 ?_
      simp only [Act.put, List.setIfInBounds_toArray, List.set_cons_zero, List.set_cons_succ]
      refine sch_end (.cons (o := ⟨none, _, _, _, _, _⟩) rfl .nil) ?_
      have ox := slice_one hx.at_
      refine store_wld (op := ⟨none, _, _, _, _, _⟩) rfl _ _ rfl wb.heap.size rfl x (iAt L 0) (iAt L 1) nilV nilV rfl hG.there ox rfl rfl ?_
      have hq := And.intro (hG.setAll (u' := x) (us' := nilV) (ub' := nilV) (tk' := iAt L 0) (sd' := iAt L 1)) (setCells_grown wd wb.heap.size 0 (wcells x (iAt L 0) (iAt L 1) nilV nilV))
      generalize World.setCells wd _ _ _ = wn at hq
      obtain ⟨hGn, hgr⟩ := hq
      have hxn := hx2.kept hgr (.inr (by intro e; have := hxg _ e; omega))
      have hBn : Below wa.heap.size wa wn := hB2.grown hgr (by omega) (fun k h => by simp only [Option.some.injEq] at h; omega)
      have hN := Hd.new hGn hxn (by intro e; have := hxg _ e; omega) (by omega)
      clear hG hk2 hB1 hB2 hx hx2 hGn hxn hgr hk
      go_wp2_with fail
      go_meet
      case rel => exact ⟨⟨_, _, rfl, hN⟩, hBn⟩
    · refine alloc_wld rfl rfl ?_
      have hG := WBlk.new wa.drew 36 nilV 0 0 nilV nilV
      have hk2 : Below wa.drew.heap.size wa.drew (wa.drew.alloc (.cells #[nilV, .int .i64 0, .int .i64 0, nilV, nilV] 36)) := (Below.refl _ _).alloc (Nat.le_refl _) _
      generalize World.alloc wa.drew _ = wb at hG hk2
      have hbb := hbd.trans (hk2.mono hbd.size)
      rw [hwz] at hG hk2
      have hB1 : Below wa.heap.size wa wb := hB0.trans hk2
      have hGl := hG.lt
      refine sch_next hB1 ?_
      simp only [Act.put, List.setIfInBounds_toArray, List.set_cons_zero, List.set_cons_succ]
      refine sch_ef (o := ⟨some 49, _, _, _, _, _⟩) rfl ?_
      refine wpList_callC rfl 72 _ _ rfl Try.func72 (by kernel_rfl) (by kernel_rfl) #[.agg #[u]] (by kernel_rfl) (HC _ hbb) ?_
      rintro e wd ⟨x, rfl, hx, hk⟩
      refine ⟨_, rfl, ?_⟩
      have hxg := hx.ge
      have hB2 := hB1.trans (hk.mono hB1.size)
      have hG2 := hG.below hk hG.lt
      have hz1 := hk.size
      refine sch_next hB2 ?_
      simp only [Act.put, List.setIfInBounds_toArray, List.set_cons_zero, List.set_cons_succ]
      refine sch_still (o := ⟨some 56, _, _, _, _, _⟩) (v := .agg #[x, .int .i64 (iAt L 0), .int .i64 (iAt L 1), nilV, nilV]) rfl rfl ?_ ?_
      · intro wx hSx
        go_simp; rfl
      simp only [Act.put, List.setIfInBounds_toArray, List.set_cons_zero, List.set_cons_succ]
      refine sch_end (.cons (o := ⟨none, _, _, _, _, _⟩) rfl .nil) ?_
      have ox := slice_one hx.at_
      refine store_wld (op := ⟨none, _, _, _, _, _⟩) rfl _ _ rfl wa.heap.size rfl x (iAt L 0) (iAt L 1) nilV nilV rfl hG2.there ox rfl rfl ?_
      have hq := And.intro (hG2.setAll (u' := x) (us' := nilV) (ub' := nilV) (tk' := iAt L 0) (sd' := iAt L 1)) (setCells_grown wd wa.heap.size 0 (wcells x (iAt L 0) (iAt L 1) nilV nilV))
      generalize World.setCells wd _ _ _ = wn at hq
      obtain ⟨hGn, hgr⟩ := hq
      have hxn := (hx.kept hgr (.inr (by intro e; have := hxg _ e; omega))).mono (base' := wa.heap.size) (by omega)
      have hBn : Below wa.heap.size wa wn := hB2.grown hgr (by omega) (fun k h => by simp only [Option.some.injEq] at h; omega)
      have hN := Hd.new hGn hxn (by intro e; have := hxg _ e; omega) (by omega)
      clear hG hk2 hB1 hB2 hx hG2 hGn hxn hgr hk hbb
      go_wp2_with fail
      go_meet
      case rel => exact ⟨⟨_, _, rfl, hN⟩, hBn⟩
  case rest =>
  clear hbd hRd hB0 HC e0 e1
  obtain ⟨⟨G, x, rfl, hH⟩, hbl⟩ := hcut
  have hGl := hH.blk.lt
  have hGe := hH.ge
  go_upto_region 8 with (fail)
  apply wp_region_lit
  iterate 9 go_step
  refine slice_lh (o := ⟨some 60, _, _, _, _, _⟩) rfl _ _ _ rfl (lo := 3) (hi := 3 + m) rfl rfl rfl rfl (by omega) (hatL.below hbl) (by omega) (by omega) ?_
  intro v2 hat2
  simp only [Act.put, List.setIfInBounds_toArray, List.set_cons_zero, List.set_cons_succ]
  refine wpList_callC rfl 93 _ _ rfl Try.func93 (by kernel_rfl) (by kernel_rfl) #[v2] (by kernel_rfl) (clone_ret _ (hat2 _ (hatL.below hbl)) (by rw [List.length_take]; omega)) ?_
  rintro e wd ⟨v3, rfl, hv3, hk⟩
  refine ⟨_, rfl, ?_⟩
  rw [show 3 + m - 3 = m by omega] at hv3
  have hGd := hH.blk.below hk hGl
  have hput := hH.putS hk hv3 (by omega)
  have o3 := slice_one hv3.at_
  have q3 := hGd.c3
  have p3 := hGd.f3
  clear hat2 hv3
  simp only [Act.put, List.setIfInBounds_toArray, List.set_cons_zero, List.set_cons_succ]
  iterate 3 go_step
  refine store_cell (o := ⟨none, _, _, _, _, _⟩) rfl _ _ _ rfl G 3 rfl v3 rfl o3 size_ints q3 p3 ?_
  generalize World.setCell wd _ _ = we at hput
  obtain ⟨hH2, hk2⟩ := hput
  have hbl2 := hbl.trans hk2
  have hbe := hb.trans (hbl2.mono hb.size)
  have hRe := hR.below hbl2 hR.lt
  have hJ : RdJ wa we G (mkN l L m 0) := ⟨⟨_, _, _, hH2⟩, hbl2⟩
  clear hH hbl hk hGd q3 p3 o3 hk2 hH2
  go_upto_region 9 with (fail)
  apply wp_region_lit
  iterate 9 go_step
  refine slice_l (o := ⟨some 66, _, _, _, _, _⟩) rfl _ _ rfl (lo := 3 + m) rfl rfl rfl (hatL.below hbl2) (by omega) ?_
  intro v4 hat4
  simp only [Act.put, List.setIfInBounds_toArray, List.set_cons_zero, List.set_cons_succ]
  obtain ⟨_, ro, rc, rfl, _⟩ := id (hat4 _ hatL)
  have hatR := fun wx (hx : Below wa.heap.size wa wx) => hat4 wx (hatL.below hx)
  clear hat4
  obtain ⟨R, hRq⟩ : ∃ R, L.drop (3 + m) = R := ⟨_, rfl⟩
  have hRl : R.length ≤ L.length - (3 + m) ∧ L.length - (3 + m) ≤ R.length := by rw [← hRq, List.length_drop]; omega
  rw [hRq] at hatR
  rw [hRq]
  go_upto_region 10 with (fail)
  have hRlm : R.length ≤ 1048576 := by omega
  by_cases h9 : R.length % 9 = 0
  rotate_left
  · have HN := Lib.hid (HNO.out (HR3.out fun e => by unfold fitL at e; have := e.2.2.2.2; rw [hn, Int.toNat_natCast] at this; omega))
    go_upto_region 11 with (fail)
    have hRs := (hRe.setAll (u' := nilV) (us' := nilV) (ub' := nilV) (tk' := 0) (sd' := 0)).range
    have hbs := setCells_below (o := 0) (vs := wcells nilV 0 0 nilV nilV) hbe (show w.heap.size ≤ w.heap.size + 1 by omega)
    have hRt := hRe.there
    apply wp_region_lit
    iterate 3 go_step
    refine store_wld (op := ⟨none, _, _, _, _, _⟩) rfl _ _ rfl (w.heap.size + 1) rfl nilV 0 0 nilV nilV rfl hRt rfl rfl rfl ?_
    generalize hwn : World.setCells _ _ _ _ = wn
    rw [hwn] at hRs hbs
    clear hwn
    repeat go_step
    refine bodyPost_ret (res_wld2 rfl rfl rfl hRs) rfl ?_
    exact ⟨nilV, nilV, nilV, by rw [HN.out]; rfl, by rw [HN.out]; exact wown_nil _ _, hbs⟩
  by_cases h24 : 24 < R.length / 9
  · have HN := Lib.hid (HBAD.out (mkW_most hn (by omega)))
    go_upto_region 11 with (fail)
    have hRs := (hRe.setAll (u' := nilV) (us' := nilV) (ub' := nilV) (tk' := 0) (sd' := 0)).range
    have hbs := setCells_below (o := 0) (vs := wcells nilV 0 0 nilV nilV) hbe (show w.heap.size ≤ w.heap.size + 1 by omega)
    have hRt := hRe.there
    apply wp_region_lit
    iterate 3 go_step
    refine store_wld (op := ⟨none, _, _, _, _, _⟩) rfl _ _ rfl (w.heap.size + 1) rfl nilV 0 0 nilV nilV rfl hRt rfl rfl rfl ?_
    generalize hwn : World.setCells _ _ _ _ = wn
    rw [hwn] at hRs hbs
    clear hwn
    repeat go_step
    refine bodyPost_ret (res_wld2 rfl rfl rfl hRs) rfl ?_
    exact ⟨nilV, nilV, nilV, by rw [HN.out]; rfl, by rw [HN.out]; exact wown_nil _ _, hbs⟩
  obtain ⟨c, hc⟩ : ∃ c, R.length ≤ 9 * c ∧ 9 * c ≤ R.length := ⟨R.length / 9, by omega⟩
  have hc24 : c ≤ 24 := by omega
  go_upto_region 13 with (fail)
  go_loopw [12, 13] (fun i _ wr => ∃ k : Nat, k ≤ c ∧ i = .int .i64 ((9 * k : Nat) : Int) ∧ RdJ wa wr G (mkN l L m k)) (fun i _ _ => R.length - (intOf i).toNat)
  case atStart => exact ⟨0, Nat.zero_le _, rfl, hJ⟩
  case round =>
    clear hJ hbe hRe
    obtain ⟨k, hk, rfl, ⟨⟨x, xs, xb, hH⟩, hbl⟩⟩ := hrel
    by_cases hlt : k < c
    · have hXb : (mkN l L m k).bodies.length = k := by unfold mkN; simp only [bdsF_len]
      have HS : Hid (mkN l L m (k + 1) = { mkN l L m k with bodies := (mkN l L m k).bodies ++ [rowB ((R.drop (9 * k)).take 9)] }) := Lib.hid (by
        have := mkN_succ L m k
        rw [hRq] at this
        unfold mkN
        rw [hRq, this])
      obtain ⟨X, hX⟩ : ∃ X, mkN l L m k = X := ⟨_, rfl⟩
      rw [hX] at hH hXb HS
      clear hX
      have x1 : decide (((9 * k : Nat) : Int) < (R.length : Int)) = true := decide_eq_true (by omega)
      have hRl9 : 9 * k + 9 ≤ R.length := by omega
      go_upto_region 15 with (fail)
      apply wp_region_lit
      iterate 12 go_step
      refine slice_lh (o := ⟨some 88, _, _, _, _, _⟩) rfl _ _ _ rfl (lo := 9 * k) (hi := 9 * k + 9) rfl rfl rfl (by omega) (by omega) (hatR _ hbl) (by omega) hRl9 ?_
      intro v5 hat5
      have hat6 := hat5 _ (hatR _ hbl)
      clear hat5
      rw [show 9 * k + 9 - 9 * k = 9 by omega] at hat6
      obtain ⟨RL, hRL⟩ : ∃ RL, (R.drop (9 * k)).take 9 = RL := ⟨_, rfl⟩
      have hl9 : RL.length = 9 := by rw [← hRL, List.length_take, List.length_drop]; omega
      rw [hRL] at hat6 HS
      obtain ⟨g5, off5, cap5, rfl, hg5, hc5⟩ := hat6.iAt_cell (by omega)
      rw [hl9] at hc5 ⊢
      clear hat6 hRL x1
      simp only [Act.put, List.setIfInBounds_toArray, List.set_cons_zero, List.set_cons_succ]
      go_upto_region 16 with (fail)
      have hB0 := (Below.refl wr.heap.size wr).drew
      have e4 := hH.blk.c4
      have hGw := hH.blk.lt
      have hHd := hH.drew
      refine wp_region_sch (fun wx => Below wr.heap.size wr wx) 31 4 (.st 0 (.st 1 (.st 2 (.st 3 (.st 4 (.st 5 (.st 6 (.st 7 (.st 8 (.st 9 (.st 10 (.st 11 (.st 12 (.st 13 (.st 14 (.st 15 (.st 16 (.st 17 (.st 18 (.st 19 (.st 20 (.st 21 (.st 22 (.st 23 (.st 24 (.st 25 (.st 26 (.st 27 (.st 28 (.st 29 (.ef 30 (.fin [31, 32, 33])))))))))))))))))))))))))))))))) (by kernel_rfl) (by kernel_rfl) (fun _ _ d _ _ h => by cases d <;> exact h) hB0 ?_
      refine sch_still (o := ⟨some 89, _, _, _, _, _⟩) (v := .pointer (some ⟨G, 4, none⟩)) rfl rfl ?_ ?_
      · intro wx hSx
        go_simp
      simp only [Act.put, List.setIfInBounds_toArray, List.set_cons_zero, List.set_cons_succ]
      refine sch_still (o := ⟨some 90, _, _, _, _, _⟩) (v := xb) rfl rfl ?_ ?_
      · intro wx hSx
        have c := (hSx.cell (p := ⟨G, 4, none⟩) hGw).trans e4; go_simp
      simp only [Act.put, List.setIfInBounds_toArray, List.set_cons_zero, List.set_cons_succ]
      refine sch_still (o := ⟨some 91, _, _, _, _, _⟩) (v := .slice (some ⟨g5, off5, none⟩) 9 cap5) rfl rfl ?_ ?_
      · intro wx hSx
        go_simp
      simp only [Act.put, List.setIfInBounds_toArray, List.set_cons_zero, List.set_cons_succ]
      refine sch_still (o := ⟨some 92, _, _, _, _, _⟩) (v := .pointer (some ⟨g5, off5, none⟩)) rfl rfl ?_ ?_
      · intro wx hSx
        go_simp
      simp only [Act.put, List.setIfInBounds_toArray, List.set_cons_zero, List.set_cons_succ]
      refine sch_still (o := ⟨some 93, _, _, _, _, _⟩) (v := .int .i64 (iAt RL 0)) rfl rfl ?_ ?_
      · intro wx hSx
        have c := (hSx.cell (p := ⟨g5, off5, none⟩) hg5).trans (hc5 0 (by omega)); go_simp
      simp only [Act.put, List.setIfInBounds_toArray, List.set_cons_zero, List.set_cons_succ]
      refine sch_still (o := ⟨some 94, _, _, _, _, _⟩) (v := .slice (some ⟨g5, off5, none⟩) 9 cap5) rfl rfl ?_ ?_
      · intro wx hSx
        go_simp
      simp only [Act.put, List.setIfInBounds_toArray, List.set_cons_zero, List.set_cons_succ]
      refine sch_still (o := ⟨some 95, _, _, _, _, _⟩) (v := .pointer (some ⟨g5, off5 + 1, none⟩)) rfl rfl ?_ ?_
      · intro wx hSx
        go_simp
      simp only [Act.put, List.setIfInBounds_toArray, List.set_cons_zero, List.set_cons_succ]
      refine sch_still (o := ⟨some 96, _, _, _, _, _⟩) (v := .int .i64 (iAt RL 1)) rfl rfl ?_ ?_
      · intro wx hSx
        have c := (hSx.cell (p := ⟨g5, off5 + 1, none⟩) hg5).trans (hc5 1 (by omega)); go_simp
      simp only [Act.put, List.setIfInBounds_toArray, List.set_cons_zero, List.set_cons_succ]
      refine sch_still (o := ⟨some 97, _, _, _, _, _⟩) (v := .slice (some ⟨g5, off5, none⟩) 9 cap5) rfl rfl ?_ ?_
      · intro wx hSx
        go_simp
      simp only [Act.put, List.setIfInBounds_toArray, List.set_cons_zero, List.set_cons_succ]
      refine sch_still (o := ⟨some 98, _, _, _, _, _⟩) (v := .pointer (some ⟨g5, off5 + 2, none⟩)) rfl rfl ?_ ?_
      · intro wx hSx
        go_simp
      simp only [Act.put, List.setIfInBounds_toArray, List.set_cons_zero, List.set_cons_succ]
      refine sch_still (o := ⟨some 99, _, _, _, _, _⟩) (v := .int .i64 (iAt RL 2)) rfl rfl ?_ ?_
      · intro wx hSx
        have c := (hSx.cell (p := ⟨g5, off5 + 2, none⟩) hg5).trans (hc5 2 (by omega)); go_simp
      simp only [Act.put, List.setIfInBounds_toArray, List.set_cons_zero, List.set_cons_succ]
      refine sch_still (o := ⟨some 100, _, _, _, _, _⟩) (v := .slice (some ⟨g5, off5, none⟩) 9 cap5) rfl rfl ?_ ?_
      · intro wx hSx
        go_simp
      simp only [Act.put, List.setIfInBounds_toArray, List.set_cons_zero, List.set_cons_succ]
      refine sch_still (o := ⟨some 101, _, _, _, _, _⟩) (v := .pointer (some ⟨g5, off5 + 3, none⟩)) rfl rfl ?_ ?_
      · intro wx hSx
        go_simp
      simp only [Act.put, List.setIfInBounds_toArray, List.set_cons_zero, List.set_cons_succ]
      refine sch_still (o := ⟨some 102, _, _, _, _, _⟩) (v := .int .i64 (iAt RL 3)) rfl rfl ?_ ?_
      · intro wx hSx
        have c := (hSx.cell (p := ⟨g5, off5 + 3, none⟩) hg5).trans (hc5 3 (by omega)); go_simp
      simp only [Act.put, List.setIfInBounds_toArray, List.set_cons_zero, List.set_cons_succ]
      refine sch_still (o := ⟨some 103, _, _, _, _, _⟩) (v := .slice (some ⟨g5, off5, none⟩) 9 cap5) rfl rfl ?_ ?_
      · intro wx hSx
        go_simp
      simp only [Act.put, List.setIfInBounds_toArray, List.set_cons_zero, List.set_cons_succ]
      refine sch_still (o := ⟨some 104, _, _, _, _, _⟩) (v := .pointer (some ⟨g5, off5 + 4, none⟩)) rfl rfl ?_ ?_
      · intro wx hSx
        go_simp
      simp only [Act.put, List.setIfInBounds_toArray, List.set_cons_zero, List.set_cons_succ]
      refine sch_still (o := ⟨some 105, _, _, _, _, _⟩) (v := .int .i64 (iAt RL 4)) rfl rfl ?_ ?_
      · intro wx hSx
        have c := (hSx.cell (p := ⟨g5, off5 + 4, none⟩) hg5).trans (hc5 4 (by omega)); go_simp
      simp only [Act.put, List.setIfInBounds_toArray, List.set_cons_zero, List.set_cons_succ]
      refine sch_still (o := ⟨some 106, _, _, _, _, _⟩) (v := .slice (some ⟨g5, off5, none⟩) 9 cap5) rfl rfl ?_ ?_
      · intro wx hSx
        go_simp
      simp only [Act.put, List.setIfInBounds_toArray, List.set_cons_zero, List.set_cons_succ]
      refine sch_still (o := ⟨some 107, _, _, _, _, _⟩) (v := .pointer (some ⟨g5, off5 + 5, none⟩)) rfl rfl ?_ ?_
      · intro wx hSx
        go_simp
      simp only [Act.put, List.setIfInBounds_toArray, List.set_cons_zero, List.set_cons_succ]
      refine sch_still (o := ⟨some 108, _, _, _, _, _⟩) (v := .int .i64 (iAt RL 5)) rfl rfl ?_ ?_
      · intro wx hSx
        have c := (hSx.cell (p := ⟨g5, off5 + 5, none⟩) hg5).trans (hc5 5 (by omega)); go_simp
      simp only [Act.put, List.setIfInBounds_toArray, List.set_cons_zero, List.set_cons_succ]
      refine sch_still (o := ⟨some 109, _, _, _, _, _⟩) (v := .slice (some ⟨g5, off5, none⟩) 9 cap5) rfl rfl ?_ ?_
      · intro wx hSx
        go_simp
      simp only [Act.put, List.setIfInBounds_toArray, List.set_cons_zero, List.set_cons_succ]
      refine sch_still (o := ⟨some 110, _, _, _, _, _⟩) (v := .pointer (some ⟨g5, off5 + 6, none⟩)) rfl rfl ?_ ?_
      · intro wx hSx
        go_simp
      simp only [Act.put, List.setIfInBounds_toArray, List.set_cons_zero, List.set_cons_succ]
      refine sch_still (o := ⟨some 111, _, _, _, _, _⟩) (v := .int .i64 (iAt RL 6)) rfl rfl ?_ ?_
      · intro wx hSx
        have c := (hSx.cell (p := ⟨g5, off5 + 6, none⟩) hg5).trans (hc5 6 (by omega)); go_simp
      simp only [Act.put, List.setIfInBounds_toArray, List.set_cons_zero, List.set_cons_succ]
      refine sch_still (o := ⟨some 112, _, _, _, _, _⟩) (v := .slice (some ⟨g5, off5, none⟩) 9 cap5) rfl rfl ?_ ?_
      · intro wx hSx
        go_simp
      simp only [Act.put, List.setIfInBounds_toArray, List.set_cons_zero, List.set_cons_succ]
      refine sch_still (o := ⟨some 113, _, _, _, _, _⟩) (v := .pointer (some ⟨g5, off5 + 7, none⟩)) rfl rfl ?_ ?_
      · intro wx hSx
        go_simp
      simp only [Act.put, List.setIfInBounds_toArray, List.set_cons_zero, List.set_cons_succ]
      refine sch_still (o := ⟨some 114, _, _, _, _, _⟩) (v := .int .i64 (iAt RL 7)) rfl rfl ?_ ?_
      · intro wx hSx
        have c := (hSx.cell (p := ⟨g5, off5 + 7, none⟩) hg5).trans (hc5 7 (by omega)); go_simp
      simp only [Act.put, List.setIfInBounds_toArray, List.set_cons_zero, List.set_cons_succ]
      refine sch_still (o := ⟨some 115, _, _, _, _, _⟩) (v := .slice (some ⟨g5, off5, none⟩) 9 cap5) rfl rfl ?_ ?_
      · intro wx hSx
        go_simp
      simp only [Act.put, List.setIfInBounds_toArray, List.set_cons_zero, List.set_cons_succ]
      refine sch_still (o := ⟨some 116, _, _, _, _, _⟩) (v := .pointer (some ⟨g5, off5 + 8, none⟩)) rfl rfl ?_ ?_
      · intro wx hSx
        go_simp
      simp only [Act.put, List.setIfInBounds_toArray, List.set_cons_zero, List.set_cons_succ]
      refine sch_still (o := ⟨some 117, _, _, _, _, _⟩) (v := .int .i64 (iAt RL 8)) rfl rfl ?_ ?_
      · intro wx hSx
        have c := (hSx.cell (p := ⟨g5, off5 + 8, none⟩) hg5).trans (hc5 8 (by omega)); go_simp
      simp only [Act.put, List.setIfInBounds_toArray, List.set_cons_zero, List.set_cons_succ]
      refine sch_still (o := ⟨some 118, _, _, _, _, _⟩) (v := (rowB RL).val) rfl rfl ?_ ?_
      · intro wx hSx
        go_simp; rfl
      simp only [Act.put, List.setIfInBounds_toArray, List.set_cons_zero, List.set_cons_succ]
      have hwz : wr.drew.heap.size = wr.heap.size := rfl
      generalize wr.drew = wq at *
      refine sch_ef (o := ⟨some 119, _, _, _, _, _⟩) rfl ?_
      refine lit_bod (o := ⟨some 119, _, _, _, _, _⟩) rfl _ rfl (rowB RL) rfl ?_
      have hq := own_lit wq (rowB RL)
      have hk2 : Below wq.heap.size wq (wq.alloc (.cells (rowB RL).cells.toArray 42)) := (Below.refl _ _).alloc (Nat.le_refl _) _
      generalize World.alloc wq _ = wl at hq hk2
      have hH2 := hHd.below hk2
      have hB2 : Below wr.heap.size wr wl := hB0.trans (hk2.mono hB0.size)
      have hzw := hbl.size
      have hzl := hB2.size
      clear hB0 hHd hH hk2 e4 hc5 hg5
      refine sch_next hB2 ?_
      simp only [Act.put, List.setIfInBounds_toArray, List.set_cons_zero, List.set_cons_succ]
      refine sch_end (.cons (o := ⟨some 120, _, _, _, _, _⟩) rfl (.cons (o := ⟨some 121, _, _, _, _, _⟩) rfl (.cons (o := ⟨none, _, _, _, _, _⟩) rfl .nil))) ?_
      refine app_bods (o := ⟨some 120, _, _, _, _, _⟩) wl rfl _ _ rfl wa.heap.size hH2.own.b rfl hq.at_ rfl (by omega) (by omega) ?_
      intro v6 wz hv hg hvb
      have hHe := hH2.appB hv hg hvb
      have g4 := (hH2.blk.grown hg hH2.n3).c4
      have p4 := (hH2.blk.grown hg hH2.n3).f4
      have ov := slice_one hv.at_
      clear hv hg hvb hq
      simp only [Act.put, List.setIfInBounds_toArray, List.set_cons_zero, List.set_cons_succ]
      iterate 3 go_step
      refine store_cell (o := ⟨none, _, _, _, _, _⟩) rfl _ _ _ rfl G 4 rfl v6 rfl ov size_bods g4 p4 ?_
      generalize World.setCell wz _ _ = wn at hHe
      obtain ⟨hH3, ht⟩ := hHe
      have hk3 : Below wa.heap.size wl wn := hH2.tchBelow ht (fun i hi => hi.imp id fun e => .inr (.inr e))
      have hbl3 := (hbl.trans (hB2.mono hzw)).trans hk3
      clear hH2 ht hk3 g4 p4 ov hB2 hbl hzl
      go_wp2_with fail
      go_roundw
      case rel => exact ⟨k + 1, by omega, by go_num, ⟨⟨x, xs, v6, by rw [HS.out]; exact hH3⟩, hbl3⟩⟩
      case measure => simp [intOf]; omega
    · obtain rfl : k = c := by omega
      have hXX : Hid (mkN l L m k = mkW l L) := Lib.hid (by rw [← mkN_end hn]; congr 1; omega)
      have hsm : WSmall (mkN l L m k) := mkN_small hm hz (by omega) (by omega)
      have hbw : ∀ b ∈ (mkN l L m k).bodies, BWf b := bdsF_wf k (by
        have hq := HOK.out
        unfold okS at hq ⊢
        exact List.all_eq_true.2 fun x hx => List.all_eq_true.1 hq x (List.mem_of_mem_drop hx))
      have hfit : fitL L := by
        unfold fitL
        rw [hn, Int.toNat_natCast]
        omega
      rw [hXX.out] at hH hsm hbw
      obtain ⟨X, hX⟩ : ∃ X, mkW l L = X := ⟨_, rfl⟩
      rw [hX] at hH hsm hbw HBAD HYES
      clear hX hXX HSA HOT
      have HWO := worldok_impl wr hH.own.at_ hsm hbw
      have x1 : decide (((9 * k : Nat) : Int) < (R.length : Int)) = false := decide_eq_false (by omega)
      have hbw := hb.trans (hbl.mono hb.size)
      have hRw := hR.below hbl hR.lt
      clear hsm hm hz hatR hatL
      go_upto_region 17 with (fail)
      apply wp_region_lit
      refine load_wld (op := ⟨some 122, _, _, _, _, _⟩) rfl _ rfl G rfl _ _ _ _ _ hH.blk.range ?_
      refine wpList_callC rfl 53 _ _ rfl Try.func53 (by kernel_rfl) (by kernel_rfl) #[.agg #[x, .int .i64 X.tick, .int .i64 X.seed, xs, xb]] (by kernel_rfl) HWO ?_
      rintro e wf ⟨rfl, hk1⟩
      refine ⟨_, rfl, ?_⟩
      have hbf := hbw.trans (hk1.mono hbw.size)
      have hRf := hRw.below hk1 hRw.lt
      have hHf := hH.below hk1
      clear hbw hRw hH hk1 HWO x1
      simp only [Act.put, List.setIfInBounds_toArray, List.set_cons_zero, List.set_cons_succ]
      cases hok : okW X with
      | false =>
        have HN := Lib.hid (HBAD.out hok)
        go_upto_region 18 with (fail)
        have hRs := (hRf.setAll (u' := nilV) (us' := nilV) (ub' := nilV) (tk' := 0) (sd' := 0)).range
        have hbs := setCells_below (o := 0) (vs := wcells nilV 0 0 nilV nilV) hbf (show w.heap.size ≤ w.heap.size + 1 by omega)
        have hRt := hRf.there
        apply wp_region_lit
        iterate 3 go_step
        refine store_wld (op := ⟨none, _, _, _, _, _⟩) rfl _ _ rfl (w.heap.size + 1) rfl nilV 0 0 nilV nilV rfl hRt rfl rfl rfl ?_
        generalize hwn : World.setCells _ _ _ _ = wn
        rw [hwn] at hRs hbs
        clear hwn
        repeat go_step
        refine bodyPost_ret (res_wld2 rfl rfl rfl hRs) rfl ?_
        exact ⟨nilV, nilV, nilV, by rw [HN.out]; rfl, by rw [HN.out]; exact wown_nil _ _, hbs⟩
      | true =>
        have HN := Lib.hid (HYES.out (HR4.out (by first | rfl | trivial) (by first | rfl | trivial) hfit) hok)
        have hOz := hHf.own
        have oz := slice_one hOz.at_.r
        have ozs := slice_one hOz.at_.s
        have ozb := slice_one hOz.at_.b
        go_upto_region 19 with (fail)
        apply wp_region_lit
        refine load_wld (op := ⟨some 126, _, _, _, _, _⟩) rfl _ rfl G rfl _ _ _ _ _ hHf.blk.range ?_
        refine store_wld (op := ⟨none, _, _, _, _, _⟩) rfl _ _ rfl (w.heap.size + 1) rfl _ _ _ _ _ rfl hRf.there oz ozs ozb ?_
        have hq := And.intro (hRf.setAll (u' := x) (us' := xs) (ub' := xb) (tk' := X.tick) (sd' := X.seed)) (setCells_grown wf (w.heap.size + 1) 0 (wcells x X.tick X.seed xs xb))
        generalize World.setCells wf _ _ _ = wn at hq
        obtain ⟨hRn, hgr⟩ := hq
        have hOn := (hOz.tch (S := fun i => i = w.heap.size + 1) (Tch.of_grown1 hgr rfl) (fun i hi e => by have := (hOz.ge i hi).1; omega)).mono (B' := w.heap.size) (by omega)
        have hbn : Below w.heap.size w wn := hbf.grown hgr (by have := hRf.lt; omega) (fun k h => by simp only [Option.some.injEq] at h; omega)
        repeat go_step
        refine bodyPost_ret (res_wld2 rfl rfl rfl hRn.range) rfl ?_
        exact ⟨x, _, _, by rw [HN.out], by rw [HN.out]; exact hOn, hbn⟩
end Go.Proofs.Ytmamihkcikgmcaa
