/- Texts Stw in one. -/
import Derived.Test.YtmamihkcikgmcaaKH
import Derived.Test.YtmamihkcikgmcaaKK
import Derived.Test.YtmamihkcikgmcaaKN
/- StepWorld, the program's. -/
namespace Go.Proofs.Ytmamihkcikgmcaa
open Go.RowKit

theorem drop_app {pl r : List Bd} {n : Nat} (hp : pl.length = n) : (pl ++ r).drop n = r := by rw [← hp]; exact List.drop_left
theorem hits_fst (X : Wd) (n : Nat) {bs : List Bd} (hp : (shAll (bs.take n) X.scores (bs.drop n)).pl.length = n) :
    (itAll (((shAll (bs.take n) X.scores (bs.drop n)).pl ++ (shAll (bs.take n) X.scores (bs.drop n)).left).take n) (shAll (bs.take n) X.scores (bs.drop n)).sc (((shAll (bs.take n) X.scores (bs.drop n)).pl ++ (shAll (bs.take n) X.scores (bs.drop n)).left).drop n)).1 = (hitsT n X.scores bs).1 ∧
    (((shAll (bs.take n) X.scores (bs.drop n)).pl ++ (shAll (bs.take n) X.scores (bs.drop n)).left).take n) ++ (itAll (((shAll (bs.take n) X.scores (bs.drop n)).pl ++ (shAll (bs.take n) X.scores (bs.drop n)).left).take n) (shAll (bs.take n) X.scores (bs.drop n)).sc (((shAll (bs.take n) X.scores (bs.drop n)).pl ++ (shAll (bs.take n) X.scores (bs.drop n)).left).drop n)).2 = (hitsT n X.scores bs).2 := by
  rw [take_app hp, drop_app hp]
  exact ⟨rfl, rfl⟩
theorem rnd_in {s : Int} {n : Nat} (h1 : 0 ≤ s) (h2 : s ≤ 65535) (h3 : 1 ≤ n) (h4 : n ≤ 4096) : rnd1 s n = nextR s ∧ rnd2 s n = randT s n := by
  have h : rndOk s n := ⟨h1, h2, by omega, by omega⟩
  exact ⟨if_pos h, if_pos h⟩
theorem step_a {X : Wd} {row : List Int} {H : List Int × List Bd} (hH : hits1 X row = H) (h : (X.tick + 1) % 16 ≠ 0 ∨ (spotsT X.rows).length = 0 ∨ 24 ≤ H.2.length) : stepU X row = ⟨X.rows, X.tick + 1, nextR X.seed, H.1, H.2⟩ := by unfold stepU; simp only [hH]; rw [if_pos h]
theorem step_b {X : Wd} {row : List Int} {H : List Int × List Bd} {p : Int × Int} (hH : hits1 X row = H) (h : ¬ ((X.tick + 1) % 16 ≠ 0 ∨ (spotsT X.rows).length = 0 ∨ 24 ≤ H.2.length)) (hp : pAt (spotsT X.rows) (randT (nextR X.seed) (spotsT X.rows).length).toNat = p) (hi : hasItem H.2 p = true) : stepU X row = ⟨X.rows, X.tick + 1, nextR (nextR X.seed), H.1, H.2⟩ := by
  unfold stepU; simp only [hH]; rw [if_neg h, hp, if_pos hi]
theorem step_c {X : Wd} {row : List Int} {H : List Int × List Bd} {p : Int × Int} (hH : hits1 X row = H) (h : ¬ ((X.tick + 1) % 16 ≠ 0 ∨ (spotsT X.rows).length = 0 ∨ 24 ≤ H.2.length)) (hp : pAt (spotsT X.rows) (randT (nextR X.seed) (spotsT X.rows).length).toNat = p) (hi : ¬ hasItem H.2 p = true) : stepU X row = ⟨X.rows, X.tick + 1, nextR (nextR X.seed), H.1, H.2 ++ [itemB p]⟩ := by
  unfold stepU; simp only [hH]; rw [if_neg h, hp, if_neg hi]
theorem rowOk_iff {row : List Int} {n : Nat} (h : rowOk row n = true) : row.length = n ∧ ∀ k, k < n → 0 ≤ iAt row k ∧ iAt row k ≤ 15 := by
  unfold rowOk at h
  simp only [Bool.and_eq_true, decide_eq_true_eq] at h
  refine ⟨h.1, fun k hk => ?_⟩
  have := List.all_eq_true.1 h.2 (iAt row k) (by rw [iAt_eq (by omega)]; exact List.getElem_mem _)
  exact inB_iff.1 this
theorem hasI_take {bs : List Bd} {p : Int × Int} {k : Nat} (h : k < bs.length) : hasItem (bs.take (k + 1)) p = (hasItem (bs.take k) p || (decide ((bAt bs k).kind = 2) && (decide ((bAt bs k).x = p.1) && decide ((bAt bs k).y = p.2)))) := by
  unfold hasItem
  rw [List.take_add_one, List.getElem?_eq_getElem h, List.any_append, bAt_eq h]
  simp
theorem hasI_yes {bs : List Bd} {p : Int × Int} {k : Nat} (h : k < bs.length) (h1 : (bAt bs k).kind = 2 ∧ (bAt bs k).x = p.1 ∧ (bAt bs k).y = p.2) : hasItem bs p = true := by
  unfold hasItem
  rw [List.any_eq_true]
  exact ⟨bAt bs k, by rw [bAt_eq h]; exact List.getElem_mem _, by simp [h1]⟩
theorem hasI_no {bs : List Bd} {p : Int × Int} (h : ∀ k, k < bs.length → ¬ ((bAt bs k).kind = 2 ∧ (bAt bs k).x = p.1 ∧ (bAt bs k).y = p.2)) : ¬ hasItem bs p = true := by
  unfold hasItem
  rw [List.any_eq_true]
  rintro ⟨b, hb, h1⟩
  obtain ⟨k, hk, rfl⟩ := List.mem_iff_getElem.1 hb
  have := h k hk
  rw [bAt_eq hk] at this
  simp only [Bool.and_eq_true, decide_eq_true_eq] at h1
  exact this h1
theorem spL_at {l : List (Int × Int)} {k : Nat} (h : k < l.length) : lAt (spL l) k = [(pAt l k).1, (pAt l k).2] := by
  unfold lAt spL pAt List.getD
  rw [List.getElem?_map, List.getElem?_eq_getElem h]
  rfl
/-- the last loop's state -/
structure StI (w wr : World) (G : Nat) (x xs xb : Value) (XX : Wd) (px py : Int) (k : Nat) : Prop where
  hd : Hd wr (w.heap.size + 2) G x xs xb XX
  bl : Below w.heap.size w wr
  rs : WBlk wr (w.heap.size + 1) nilV 0 0 nilV nilV
  no : ∀ j, j < k → ¬ ((bAt XX.bodies j).kind = 2 ∧ (bAt XX.bodies j).x = px ∧ (bAt XX.bodies j).y = py)
set_option maxRecDepth 100000 in
set_option maxHeartbeats 16000000 in
theorem stepworld_impl {u us ub rv : Value} {X : Wd} {row : List Int} (w : World) (h : WAt w u us ub X) (hm : WSmall X) (hw : ∀ b ∈ X.bodies, BWf b) (hrow : At w 1 rv row.length (ints row)) (hrl : row.length ≤ 1048576) :
    Calls Try.prog 34 #[.agg #[u, .int .i64 X.tick, .int .i64 X.seed, us, ub], rv] w fun e w' => ∃ x xs xb, e = .returned (.agg #[x, .int .i64 (stepT X row).tick, .int .i64 (stepT X row).seed, xs, xb]) ∧ WOwn w' w.heap.size x xs xb (stepT X row) ∧ Below w.heap.size w w' := by
  have HCW : ∀ wx, Below w.heap.size w wx → Calls Try.prog 80 #[.agg #[u, .int .i64 X.tick, .int .i64 X.seed, us, ub]] wx fun e w' => ∃ x xs xb, e = .returned (.agg #[x, .int .i64 X.tick, .int .i64 X.seed, xs, xb]) ∧ WOwn w' wx.heap.size x xs xb X ∧ Below wx.heap.size wx w' := fun wx hx => copyw_impl wx (h.below hx) hm
  have HOW : ∀ wx, Below w.heap.size w wx → Calls Try.prog 53 #[.agg #[u, .int .i64 X.tick, .int .i64 X.seed, us, ub]] wx fun e w' => e = .returned (.bool (okW X)) ∧ Below wx.heap.size wx w' := fun wx hx => worldok_impl wx (h.below hx) hm hw
  have HRO : ∀ wx, Below w.heap.size w wx → Calls Try.prog 81 #[rv, .int .i64 (X.scores.length : Int)] wx fun e w' => e = .returned (.bool (rowOk row X.scores.length)) ∧ wx = w' := fun wx hx => rowok_impl X.scores.length wx (hrow.below hx) hrl hm.s
  have HNO : Hid (¬ (okW X = true ∧ X.tick ≠ 100000 ∧ rowOk row X.scores.length = true) → stepT X row = X) := Lib.hid (fun hh => if_neg hh)
  have HYES : Hid ((okW X = true ∧ X.tick ≠ 100000 ∧ rowOk row X.scores.length = true) → stepT X row = stepU X row) := Lib.hid (fun hh => if_pos hh)
  obtain ⟨so, scap, hus, _⟩ := h.s.cell
  subst hus
  go_enter Try.func34, Try.ntmps34
  go_upto_region 1 with (fail)
  generalize hw1 : (w.alloc _).alloc _ = w1
  have hb1 : Below w.heap.size w w1 := by rw [← hw1]; exact ((Below.refl _ _).alloc (Nat.le_refl _) _).alloc (by simp) _
  have hA1 : WBlk w1 w.heap.size u X.tick X.seed (.slice so X.scores.length scap) ub := by rw [← hw1]; exact (WBlk.new w _ u X.tick X.seed _ ub).alloc _
  have hR1 : WBlk w1 (w.heap.size + 1) nilV 0 0 nilV nilV := by
    rw [← hw1]
    have := WBlk.new (w.alloc (.cells #[u, .int .i64 X.tick, .int .i64 X.seed, .slice so X.scores.length scap, ub] 36)) 36 nilV 0 0 nilV nilV
    rwa [show (w.alloc (.cells #[u, .int .i64 X.tick, .int .i64 X.seed, .slice so X.scores.length scap, ub] 36)).heap.size = w.heap.size + 1 by simp] at this
  clear hw1
  apply wp_region_lit
  refine load_wld (op := ⟨some 13, _, _, _, _, _⟩) rfl _ rfl w.heap.size rfl u X.tick X.seed (.slice so X.scores.length scap) ub hA1.range ?_
  refine wpList_callC rfl 80 _ _ rfl Try.func80 (by kernel_rfl) (by kernel_rfl) #[.agg #[u, .int .i64 X.tick, .int .i64 X.seed, .slice so X.scores.length scap, ub]] (by kernel_rfl) (HCW _ hb1) ?_
  rintro e w2 ⟨x, xs, xb, rfl, hO, hk⟩
  refine ⟨_, rfl, ?_⟩
  have hb2 := hb1.trans (hk.mono hb1.size)
  have hA2 := hA1.below hk hA1.lt
  have hR2 := hR1.below hk hR1.lt
  have hO2 := hO.mono (B' := w.heap.size + 2) (by have := hR1.lt; omega)
  clear hk hb1 hA1 hR1 hO HCW
  have ox := slice_one hO2.at_.r
  have oxs := slice_one hO2.at_.s
  have oxb := slice_one hO2.at_.b
  simp only [Act.put, List.setIfInBounds_toArray, List.set_cons_zero, List.set_cons_succ]
  refine alloc_wld rfl rfl ?_
  refine store_wld (op := ⟨none, _, _, _, _, _⟩) rfl _ _ rfl w2.heap.size rfl x X.tick X.seed xs xb rfl (zwthere _ _) ox oxs oxb ?_
  have hq := newW5 hb2 hb2.size 36 x X.tick X.seed xs xb
  change WBlk (World.setCells (World.alloc w2 (.cells #[nilV, .int .i64 0, .int .i64 0, nilV, nilV] _)) _ _ _) _ _ _ _ _ _ ∧ _ ∧ _ at hq
  generalize hwn : World.setCells (World.alloc w2 _) _ _ _ = w3
  have hq' : WBlk w3 w2.heap.size x X.tick X.seed xs xb ∧ Below w.heap.size w w3 ∧ Below w2.heap.size w2 w3 := by rw [← hwn]; exact hq
  clear hq hwn
  obtain ⟨hG, hb3, hk⟩ := hq'
  have hA3 := hA2.below hk hA2.lt
  have hR3 := hR2.below hk hR2.lt
  have hH3 : Hd w3 (w.heap.size + 2) w2.heap.size x xs xb X := ⟨hG, hO2.below hk, (fun e => by have := (hO2.r.ge _ e).2; omega), (fun e => by have := (hO2.s.ge _ e).2; omega), (fun e => by have := (hO2.b.ge _ e).2; omega), by have := hR2.lt; omega⟩
  clear hG hk hA2 hR2 hO2 hb2 ox oxs oxb
  generalize w2.heap.size = G at *
  go_upto_region 2 with (fail)
  obtain ⟨_, c0, c1, c2, c3, c4, _⟩ := id hA3
  apply wp_region_lit
  refine load_wld (op := ⟨some 15, _, _, _, _, _⟩) rfl _ rfl w.heap.size rfl u X.tick X.seed (.slice so X.scores.length scap) ub hA3.range ?_
  refine wpList_callC rfl 53 _ _ rfl Try.func53 (by kernel_rfl) (by kernel_rfl) #[.agg #[u, .int .i64 X.tick, .int .i64 X.seed, .slice so X.scores.length scap, ub]] (by kernel_rfl) (HOW _ hb3) ?_
  rintro e w4 ⟨rfl, hk⟩
  refine ⟨_, rfl, ?_⟩
  have hb4 := hb3.trans (hk.mono hb3.size)
  have hA4 := hA3.below hk hA3.lt
  have hR4 := hR3.below hk hR3.lt
  have hH4 := hH3.below hk
  clear hk hb3 hA3 hR3 hH3 HOW c0 c1 c2 c3 c4
  obtain ⟨_, c0, c1, c2, c3, c4, _⟩ := id hA4
  simp only [Act.put, List.setIfInBounds_toArray, List.set_cons_zero, List.set_cons_succ]
  cases hok : okW X with
  | false =>
    have HN := Lib.hid (HNO.out (fun e => by rw [hok] at e; cases e.1))
    clear hok HRO
    go_upto_region 3 with (fail)
    have hOz := hH4.own
    have oz := slice_one hOz.at_.r
    have ozs := slice_one hOz.at_.s
    have ozb := slice_one hOz.at_.b
    apply wp_region_lit
    refine load_wld (op := ⟨some 31, _, _, _, _, _⟩) rfl _ rfl G rfl _ _ _ _ _ hH4.blk.range ?_
    refine store_wld (op := ⟨none, _, _, _, _, _⟩) rfl _ _ rfl (w.heap.size + 1) rfl _ _ _ _ _ rfl hR4.there oz ozs ozb ?_
    have hq := And.intro (hR4.setAll (u' := x) (us' := xs) (ub' := xb) (tk' := (X : Wd).tick) (sd' := (X : Wd).seed)) (setCells_grown w4 (w.heap.size + 1) 0 (wcells x (X : Wd).tick (X : Wd).seed xs xb))
    generalize World.setCells w4 _ _ _ = wn at hq
    obtain ⟨hRn, hgr⟩ := hq
    have hOn := (hOz.tch (S := fun i => i = w.heap.size + 1) (Tch.of_grown1 hgr rfl) (fun i hi e => by have := (hOz.ge i hi).1; omega)).mono (B' := w.heap.size) (by omega)
    have hbn : Below w.heap.size w wn := hb4.grown hgr (by have := hR4.lt; omega) (fun k h => by simp only [Option.some.injEq] at h; omega)
    repeat go_step
    refine bodyPost_ret (res_wld1 rfl rfl hRn.range) rfl ?_
    exact ⟨x, _, _, by rw [HN.out], by rw [HN.out]; exact hOn, hbn⟩
  | true =>
  by_cases htk : X.tick = 100000
  · have HN := Lib.hid (HNO.out (fun e => e.2.1 htk))
    have x1 : (X.tick == 100000) = true := beq_iff_eq.2 htk
    clear hok HRO htk
    go_upto_region 3 with (fail)
    have hOz := hH4.own
    have oz := slice_one hOz.at_.r
    have ozs := slice_one hOz.at_.s
    have ozb := slice_one hOz.at_.b
    apply wp_region_lit
    refine load_wld (op := ⟨some 31, _, _, _, _, _⟩) rfl _ rfl G rfl _ _ _ _ _ hH4.blk.range ?_
    refine store_wld (op := ⟨none, _, _, _, _, _⟩) rfl _ _ rfl (w.heap.size + 1) rfl _ _ _ _ _ rfl hR4.there oz ozs ozb ?_
    have hq := And.intro (hR4.setAll (u' := x) (us' := xs) (ub' := xb) (tk' := (X : Wd).tick) (sd' := (X : Wd).seed)) (setCells_grown w4 (w.heap.size + 1) 0 (wcells x (X : Wd).tick (X : Wd).seed xs xb))
    generalize World.setCells w4 _ _ _ = wn at hq
    obtain ⟨hRn, hgr⟩ := hq
    have hOn := (hOz.tch (S := fun i => i = w.heap.size + 1) (Tch.of_grown1 hgr rfl) (fun i hi e => by have := (hOz.ge i hi).1; omega)).mono (B' := w.heap.size) (by omega)
    have hbn : Below w.heap.size w wn := hb4.grown hgr (by have := hR4.lt; omega) (fun k h => by simp only [Option.some.injEq] at h; omega)
    repeat go_step
    refine bodyPost_ret (res_wld1 rfl rfl hRn.range) rfl ?_
    exact ⟨x, _, _, by rw [HN.out], by rw [HN.out]; exact hOn, hbn⟩
  have x1 : (X.tick == 100000) = false := beq_eq_false_iff_ne.2 htk
  cases hro : rowOk row X.scores.length with
  | false =>
    have HN := Lib.hid (HNO.out (fun e => by rw [hro] at e; cases e.2.2))
    rw [hro] at HRO
    clear hok htk hro
    go_wp2_with fail
    refine (HRO _ hb4).mono ?_
    rintro e wx ⟨rfl, rfl⟩
    go_upto_region 3 with (fail)
    have hOz := hH4.own
    have oz := slice_one hOz.at_.r
    have ozs := slice_one hOz.at_.s
    have ozb := slice_one hOz.at_.b
    apply wp_region_lit
    refine load_wld (op := ⟨some 31, _, _, _, _, _⟩) rfl _ rfl G rfl _ _ _ _ _ hH4.blk.range ?_
    refine store_wld (op := ⟨none, _, _, _, _, _⟩) rfl _ _ rfl (w.heap.size + 1) rfl _ _ _ _ _ rfl hR4.there oz ozs ozb ?_
    have hq := And.intro (hR4.setAll (u' := x) (us' := xs) (ub' := xb) (tk' := (X : Wd).tick) (sd' := (X : Wd).seed)) (setCells_grown w4 (w.heap.size + 1) 0 (wcells x (X : Wd).tick (X : Wd).seed xs xb))
    generalize World.setCells w4 _ _ _ = wn at hq
    obtain ⟨hRn, hgr⟩ := hq
    have hOn := (hOz.tch (S := fun i => i = w.heap.size + 1) (Tch.of_grown1 hgr rfl) (fun i hi e => by have := (hOz.ge i hi).1; omega)).mono (B' := w.heap.size) (by omega)
    have hbn : Below w.heap.size w wn := hb4.grown hgr (by have := hR4.lt; omega) (fun k h => by simp only [Option.some.injEq] at h; omega)
    repeat go_step
    refine bodyPost_ret (res_wld1 rfl rfl hRn.range) rfl ?_
    exact ⟨x, _, _, by rw [HN.out], by rw [HN.out]; exact hOn, hbn⟩
  | true =>
  have HN := Lib.hid (HYES.out ⟨hok, htk, hro⟩)
  have hX := okW_ok hok
  obtain ⟨hr1, hr2⟩ := rowOk_iff hro
  rw [hro] at HRO
  clear hok htk hro HNO HYES
  go_wp2_with fail
  refine (HRO _ hb4).mono ?_
  rintro e wx ⟨rfl, rfl⟩
  clear c0 c1 c2 c3 c4 x1 hA4 HRO
  have hrowB : ∀ wx, Below (w.heap.size + 2) w4 wx → At wx 1 rv row.length (ints row) := fun wx hx => hrow.below (hb4.trans (hx.mono (by omega)))
  have hPL := players_impl w4 hH4 hX.lv hX.n.1 hX.n.2 hX.bods hrowB hr1 hr2
  have hB1 := plUp_ok row hX.lv hX.n.2 hX.bods X.scores.length (Nat.le_refl _)
  have hB2 := mvAll_ok hB1
  have hb1e : Hid (bodies1 X row = mvAll X.rows (plUp X.rows row X.bodies X.scores.length)) := Lib.hid rfl
  have HH1 : Hid (hits1 X row = hitsT X.scores.length X.scores (bodies1 X row)) := Lib.hid rfl
  rw [← hb1e.out] at hB2
  have hsc : Scs X.scores.length X.scores := ⟨rfl, hX.sc⟩
  have hSH := shAll_ok (l := X.rows) (n := X.scores.length) (sc0 := X.scores) ((bodies1 X row).drop X.scores.length) ⟨(bodies1 X row).take X.scores.length, X.scores, []⟩ ⟨pls_take hB2, hsc, fun _ _ => Int.le_refl _, fun b hb => by simp at hb⟩ hB2.ot
  have hSL := shAll_left ((bodies1 X row).drop X.scores.length) ⟨(bodies1 X row).take X.scores.length, X.scores, []⟩
  have hST0 : ((bodies1 X row).drop X.scores.length).foldl shStep ⟨(bodies1 X row).take X.scores.length, X.scores, []⟩ = shAll ((bodies1 X row).take X.scores.length) X.scores ((bodies1 X row).drop X.scores.length) := rfl
  rw [hST0] at hSH hSL
  have hF := hits_fst X X.scores.length (bs := bodies1 X row) hSH.pl.len
  have hHO := hits_ok hsc hB2
  rw [← HH1.out] at hF hHO
  have hle2 := hB2.le
  have hmo2 := hB2.most
  simp only [List.length_nil, List.length_drop] at hSL
  go_upto_region 4 with (fail)
  apply wp_region_lit
  iterate 3 go_step
  refine wpList_callC rfl 82 _ _ rfl Try.func82 (by kernel_rfl) (by kernel_rfl) #[.pointer (some ⟨G, 0, none⟩), rv] (by kernel_rfl) hPL ?_
  rintro e w5 ⟨rfl, ⟨xb5, hH5⟩, hk⟩
  refine ⟨_, rfl, ?_⟩
  have hb5 := hb4.trans (hk.mono (by omega))
  have hR5 := hR4.below hk (by omega)
  clear hb4 hR4 hH4 hk hPL hrowB
  simp only [Act.put, List.setIfInBounds_toArray, List.set_cons_zero, List.set_cons_succ]
  go_upto_region 5 with (fail)
  apply wp_region_lit
  refine wpList_callC rfl 83 _ _ rfl Try.func83 (by kernel_rfl) (by kernel_rfl) #[.pointer (some ⟨G, 0, none⟩)] (by kernel_rfl) (moves_impl w5 hH5 hX.lv hX.n.1 hB1) ?_
  rintro e w6 ⟨rfl, ⟨xb6, hH6⟩, hk⟩
  refine ⟨_, rfl, ?_⟩
  have hb6 := hb5.trans (hk.mono (by omega))
  have hR6 := hR5.below hk (by omega)
  clear hb5 hR5 hH5 hk hB1
  simp only at hH6
  rw [← hb1e.out] at hH6
  simp only [Act.put, List.setIfInBounds_toArray, List.set_cons_zero, List.set_cons_succ]
  go_upto_region 6 with (fail)
  apply wp_region_lit
  refine wpList_callC rfl 84 _ _ rfl Try.func84 (by kernel_rfl) (by kernel_rfl) #[.pointer (some ⟨G, 0, none⟩)] (by kernel_rfl) (shots_impl w6 hH6 hX.n.1 hX.n.2 hle2 hmo2 hsc hB2) ?_
  rintro e w7 ⟨rfl, ⟨xb7, hH7⟩, hk⟩
  refine ⟨_, rfl, ?_⟩
  have hb7 := hb6.trans (hk.mono (by omega))
  have hR7 := hR6.below hk (by omega)
  clear hb6 hR6 hH6 hk
  simp only at hH7
  have hIT := items_impl w7 hH7 (by show 1 ≤ List.length _; rw [hSH.sc.len]; exact hX.n.1) (by show List.length _ ≤ 4; rw [hSH.sc.len]; exact hX.n.2) (by show List.length _ ≤ List.length (_ ++ _); rw [hSH.sc.len, List.length_append, hSH.pl.len]; omega) (by show List.length (_ ++ _) ≤ 24; rw [List.length_append, hSH.pl.len]; omega) (by show Scs (List.length _) _; rw [hSH.sc.len]; exact hSH.sc)
  simp only [hSH.sc.len] at hIT
  rw [hF.1, hF.2] at hIT
  simp only [Act.put, List.setIfInBounds_toArray, List.set_cons_zero, List.set_cons_succ]
  go_upto_region 7 with (fail)
  apply wp_region_lit
  refine wpList_callC rfl 85 _ _ rfl Try.func85 (by kernel_rfl) (by kernel_rfl) #[.pointer (some ⟨G, 0, none⟩)] (by kernel_rfl) hIT ?_
  rintro e w8 ⟨rfl, ⟨xb8, hH8⟩, hk⟩
  refine ⟨_, rfl, ?_⟩
  have hb8 := hb7.trans (hk.mono (by omega))
  have hR8 := hR7.below hk (by omega)
  clear hb7 hR7 hH7 hk hIT hF hSH hSL hST0 hle2 hmo2 hB2 hb1e HH1 hsc
  simp only [Act.put, List.setIfInBounds_toArray, List.set_cons_zero, List.set_cons_succ]
  obtain ⟨H, hHe⟩ : ∃ H, hits1 X row = H := ⟨_, rfl⟩
  rw [hHe] at hH8 hHO
  have HA := Lib.hid (fun q => HN.out.trans (step_a hHe q))
  have HB := Lib.hid (fun p q hp hi => HN.out.trans (step_b (p := p) hHe q hp hi))
  have HC := Lib.hid (fun p q hp hi => HN.out.trans (step_c (p := p) hHe q hp hi))
  have htk := hX.tick
  have hsd := hX.seed
  have hlv := hX.lv
  have hn1 := hX.n.1
  obtain ⟨hHsc, _, hHb⟩ := hHO
  have hHle := hHb.le
  have hHmo := hHb.most
  have hscl := hHsc.len
  clear hHe HN hX hr1 hr2 hrow hrl hHsc hHb
  obtain ⟨H1, H2⟩ := H
  simp only at hH8 HA HB HC hHle hHmo
  have q1 := hH8.blk.c1
  have p1 := hH8.blk.f1
  simp only at q1
  go_upto_region 8 with (fail)
  apply wp_region_lit
  iterate 12 go_step
  refine store_cell (o := ⟨none, _, _, _, _, _⟩) rfl _ _ _ rfl G 1 rfl (.int .i64 (X.tick + 1)) rfl rfl size_int q1 p1 ?_
  have hq := hH8.setTick (X.tick + 1)
  generalize World.setCell w8 _ _ = w9 at hq
  obtain ⟨hH9, hg⟩ := hq
  have hb9 := hb8.grown hg (by have := hR8.lt; omega) (fun j h => by simp only [Option.some.injEq] at h; have := hH8.ge; omega)
  have hR9 := hR8.grown hg (by simp only [ne_eq, Option.some.injEq]; have := hH8.ge; omega)
  clear hH8 hb8 hR8 hg q1 p1
  simp only at hH9
  have q2 := hH9.blk.c2
  have p2 := hH9.blk.f2
  simp only at q2
  go_upto_region 9 with (fail)
  apply wp_region_lit
  iterate 6 go_step
  refine wpList_callC rfl 86 _ _ rfl Try.func86 (by kernel_rfl) (by kernel_rfl) #[.int .i64 X.seed] (by kernel_rfl) (next_impl X.seed w9) ?_
  rintro e wx ⟨rfl, rfl⟩
  refine ⟨_, rfl, ?_⟩
  simp only [Act.put, List.setIfInBounds_toArray, List.set_cons_zero, List.set_cons_succ]
  iterate 3 go_step
  refine store_cell (o := ⟨none, _, _, _, _, _⟩) rfl _ _ _ rfl G 2 rfl (.int .i64 (nextR X.seed)) rfl rfl size_int q2 p2 ?_
  have hq := hH9.setSeed (nextR X.seed)
  generalize World.setCell w9 _ _ = wa at hq
  obtain ⟨hHa, hg⟩ := hq
  have hba := hb9.grown hg (by have := hR9.lt; omega) (fun j h => by simp only [Option.some.injEq] at h; have := hH9.ge; omega)
  have hRa := hR9.grown hg (by simp only [ne_eq, Option.some.injEq]; have := hH9.ge; omega)
  clear hH9 hb9 hR9 hg q2 p2
  simp only at hHa
  have q0 := hHa.blk.c0
  obtain ⟨hl12, hl20⟩ := lv_sizes hlv
  have hSP := spots_impl wa hHa.own.at_.r (by show X.rows.length ≤ 1048576; omega) (fun s hs => by have := hl20 s hs; omega)
  simp only at hSP
  have hsn := spots_len X.rows
  have hsl := spL_len (spotsT X.rows)
  have HSA := Lib.hid (fun k hk => spL_at (l := spotsT X.rows) (k := k) hk)
  go_upto_region 10 with (fail)
  apply wp_region_lit
  iterate 6 go_step
  refine wpList_callC rfl 87 _ _ rfl Try.func87 (by kernel_rfl) (by kernel_rfl) #[.agg #[x]] (by kernel_rfl) hSP ?_
  rintro e wb ⟨v, us, rfl, hSS, hk⟩
  refine ⟨_, rfl, ?_⟩
  have hHb := hHa.below hk
  have hbb := hba.trans (hk.mono hba.size)
  have hRb := hRa.below hk hRa.lt
  have hGa := hHa.lt
  clear hHa hba hRa hk q0 hSP hl12 hl20
  have hul := hSS.n
  rw [hsl] at hul
  clear hsl
  obtain ⟨sn, hsne⟩ : ∃ sn, (spotsT X.rows).length = sn := ⟨_, rfl⟩
  rw [hsne] at hul hsn HA HB HC
  have HSN := Lib.hid hsne
  clear hsne
  obtain ⟨vo, vc, rfl⟩ := hSS.o.slice_
  simp only [Act.put, List.setIfInBounds_toArray, List.set_cons_zero, List.set_cons_succ]
  obtain ⟨gb, cap, hxb, hgb⟩ := hHb.formB (by show 0 < H2.length; omega)
  subst hxb
  simp only at hHb
  have q1 := hHb.blk.c1
  have q4 := hHb.blk.c4
  simp only at q1
  rw [hul]
  have b6 : (0 : Int) ≤ X.tick + 1 := by omega
  by_cases ht : (X.tick + 1) % 16 ≠ 0
  · have HN := Lib.hid (HA.out (.inl ht))
    have x1 : ((X.tick + 1) % 16 != 0) = true := by simpa using ht
    clear HA HB HC ht
    go_upto_region 12 with (fail)
    have hOz := hHb.own
    have oz := slice_one hOz.at_.r
    have ozs := slice_one hOz.at_.s
    have ozb := slice_one hOz.at_.b
    apply wp_region_lit
    refine load_wld (op := ⟨some 63, _, _, _, _, _⟩) rfl _ rfl G rfl _ _ _ _ _ hHb.blk.range ?_
    refine store_wld (op := ⟨none, _, _, _, _, _⟩) rfl _ _ rfl (w.heap.size + 1) rfl _ _ _ _ _ rfl hRb.there oz ozs ozb ?_
    have hq := And.intro (hRb.setAll (u' := x) (us' := xs) (ub' := (.slice (some ⟨gb, 0, none⟩) H2.length cap)) (tk' := (⟨X.rows, X.tick + 1, nextR X.seed, H1, H2⟩ : Wd).tick) (sd' := (⟨X.rows, X.tick + 1, nextR X.seed, H1, H2⟩ : Wd).seed)) (setCells_grown wb (w.heap.size + 1) 0 (wcells x (⟨X.rows, X.tick + 1, nextR X.seed, H1, H2⟩ : Wd).tick (⟨X.rows, X.tick + 1, nextR X.seed, H1, H2⟩ : Wd).seed xs (.slice (some ⟨gb, 0, none⟩) H2.length cap)))
    generalize World.setCells wb _ _ _ = wn at hq
    obtain ⟨hRn, hgr⟩ := hq
    have hOn := (hOz.tch (S := fun i => i = w.heap.size + 1) (Tch.of_grown1 hgr rfl) (fun i hi e => by have := (hOz.ge i hi).1; omega)).mono (B' := w.heap.size) (by omega)
    have hbn : Below w.heap.size w wn := hbb.grown hgr (by have := hRb.lt; omega) (fun k h => by simp only [Option.some.injEq] at h; omega)
    repeat go_step
    refine bodyPost_ret (res_wld1 rfl rfl hRn.range) rfl ?_
    exact ⟨x, _, _, by rw [HN.out], by rw [HN.out]; exact hOn, hbn⟩
  have x1 : ((X.tick + 1) % 16 != 0) = false := by simp at ht ⊢; omega
  by_cases hs0 : sn = 0
  · have HN := Lib.hid (HA.out (.inr (.inl hs0)))
    have x2 : ((sn : Int) == 0) = true := by simp; omega
    clear HA HB HC ht hs0
    go_upto_region 12 with (fail)
    have hOz := hHb.own
    have oz := slice_one hOz.at_.r
    have ozs := slice_one hOz.at_.s
    have ozb := slice_one hOz.at_.b
    apply wp_region_lit
    refine load_wld (op := ⟨some 63, _, _, _, _, _⟩) rfl _ rfl G rfl _ _ _ _ _ hHb.blk.range ?_
    refine store_wld (op := ⟨none, _, _, _, _, _⟩) rfl _ _ rfl (w.heap.size + 1) rfl _ _ _ _ _ rfl hRb.there oz ozs ozb ?_
    have hq := And.intro (hRb.setAll (u' := x) (us' := xs) (ub' := (.slice (some ⟨gb, 0, none⟩) H2.length cap)) (tk' := (⟨X.rows, X.tick + 1, nextR X.seed, H1, H2⟩ : Wd).tick) (sd' := (⟨X.rows, X.tick + 1, nextR X.seed, H1, H2⟩ : Wd).seed)) (setCells_grown wb (w.heap.size + 1) 0 (wcells x (⟨X.rows, X.tick + 1, nextR X.seed, H1, H2⟩ : Wd).tick (⟨X.rows, X.tick + 1, nextR X.seed, H1, H2⟩ : Wd).seed xs (.slice (some ⟨gb, 0, none⟩) H2.length cap)))
    generalize World.setCells wb _ _ _ = wn at hq
    obtain ⟨hRn, hgr⟩ := hq
    have hOn := (hOz.tch (S := fun i => i = w.heap.size + 1) (Tch.of_grown1 hgr rfl) (fun i hi e => by have := (hOz.ge i hi).1; omega)).mono (B' := w.heap.size) (by omega)
    have hbn : Below w.heap.size w wn := hbb.grown hgr (by have := hRb.lt; omega) (fun k h => by simp only [Option.some.injEq] at h; omega)
    repeat go_step
    refine bodyPost_ret (res_wld1 rfl rfl hRn.range) rfl ?_
    exact ⟨x, _, _, by rw [HN.out], by rw [HN.out]; exact hOn, hbn⟩
  have x2 : ((sn : Int) == 0) = false := by simp; omega
  by_cases h24 : 24 ≤ H2.length
  · have HN := Lib.hid (HA.out (.inr (.inr h24)))
    have x3 : decide ((H2.length : Int) ≥ 24) = true := decide_eq_true (by omega)
    clear HA HB HC ht hs0 h24
    go_upto_region 12 with (fail)
    have hOz := hHb.own
    have oz := slice_one hOz.at_.r
    have ozs := slice_one hOz.at_.s
    have ozb := slice_one hOz.at_.b
    apply wp_region_lit
    refine load_wld (op := ⟨some 63, _, _, _, _, _⟩) rfl _ rfl G rfl _ _ _ _ _ hHb.blk.range ?_
    refine store_wld (op := ⟨none, _, _, _, _, _⟩) rfl _ _ rfl (w.heap.size + 1) rfl _ _ _ _ _ rfl hRb.there oz ozs ozb ?_
    have hq := And.intro (hRb.setAll (u' := x) (us' := xs) (ub' := (.slice (some ⟨gb, 0, none⟩) H2.length cap)) (tk' := (⟨X.rows, X.tick + 1, nextR X.seed, H1, H2⟩ : Wd).tick) (sd' := (⟨X.rows, X.tick + 1, nextR X.seed, H1, H2⟩ : Wd).seed)) (setCells_grown wb (w.heap.size + 1) 0 (wcells x (⟨X.rows, X.tick + 1, nextR X.seed, H1, H2⟩ : Wd).tick (⟨X.rows, X.tick + 1, nextR X.seed, H1, H2⟩ : Wd).seed xs (.slice (some ⟨gb, 0, none⟩) H2.length cap)))
    generalize World.setCells wb _ _ _ = wn at hq
    obtain ⟨hRn, hgr⟩ := hq
    have hOn := (hOz.tch (S := fun i => i = w.heap.size + 1) (Tch.of_grown1 hgr rfl) (fun i hi e => by have := (hOz.ge i hi).1; omega)).mono (B' := w.heap.size) (by omega)
    have hbn : Below w.heap.size w wn := hbb.grown hgr (by have := hRb.lt; omega) (fun k h => by simp only [Option.some.injEq] at h; omega)
    repeat go_step
    refine bodyPost_ret (res_wld1 rfl rfl hRn.range) rfl ?_
    exact ⟨x, _, _, by rw [HN.out], by rw [HN.out]; exact hOn, hbn⟩
  have x3 : decide ((H2.length : Int) ≥ 24) = false := decide_eq_false (by omega)
  have HNA : ¬ ((X.tick + 1) % 16 ≠ 0 ∨ sn = 0 ∨ 24 ≤ H2.length) := by omega
  obtain ⟨hrn1, hrn2⟩ := rnd_in (n := sn) (nextR_bd X.seed).1 (nextR_bd X.seed).2 (by omega) (by omega)
  have hrd := rand_lt (s := nextR X.seed) hs0
  rw [HSN.out] at HSA
  obtain ⟨q, hqe⟩ : ∃ q : Nat, randT (nextR X.seed) sn = q := ⟨(randT (nextR X.seed) sn).toNat, by omega⟩
  rw [hqe] at hrn2 hrd HB HC
  rw [Int.toNat_natCast] at hrd HB HC
  have hqn := hrd.2
  have HAT := Lib.hid (HSA.out q hqn)
  obtain ⟨⟨px, py⟩, hp⟩ : ∃ p, pAt (spotsT X.rows) q = p := ⟨_, rfl⟩
  rw [hp] at HAT
  have HBB := Lib.hid (fun hi => HB.out (px, py) HNA hp hi)
  have HCC := Lib.hid (fun hi => HC.out (px, py) HNA hp hi)
  have hRO := hSS.r q (by rw [← hSS.n]; omega)
  rw [HAT.out] at hRO
  simp only [List.length_cons, List.length_nil, Nat.zero_add, Nat.reduceAdd, ints, List.map_cons, List.map_nil] at hRO
  have hvq : us[q]? = some (vAt us q) := vAt_get (by omega)
  have hrx := rnd_impl (nextR X.seed) sn wb
  rw [hrn1, hrn2] at hrx
  have q2 := hHb.blk.c2
  simp only at q2
  clear HA HB HC HNA hp HSA hrn1 hrn2 hqe hrd hs0 ht h24 HAT
  generalize vAt us q = rq at *
  go_upto_region 13 with (fail)
  apply wp_region_lit
  iterate 12 go_step
  refine wpList_callC rfl 88 _ _ rfl Try.func88 (by kernel_rfl) (by kernel_rfl) #[.int .i64 (nextR X.seed), .int .i64 (sn : Int)] (by kernel_rfl) hrx ?_
  rintro e wc ⟨rfl, kd, rfl⟩
  refine ⟨_, rfl, ?_⟩
  have hkd : Below wb.heap.size wb (wb.drewN kd) := below_drewN (Below.refl _ _) kd
  have hHc := hHb.below hkd
  have hbc := hbb.trans (hkd.mono hbb.size)
  have hRc := hRb.below hkd hRb.lt
  have hSc := hSS.belowS hkd
  have hOc := hRO.belowS hkd
  clear hHb hbb hRb hSS hRO hkd hrx q1 q4 q2 x1 x2 x3
  generalize wb.drewN kd = wc at *
  simp only [Act.put, List.setIfInBounds_toArray, List.set_cons_zero, List.set_cons_succ]
  have q2 := hHc.blk.c2
  have p2 := hHc.blk.f2
  simp only at q2
  go_upto_region 14 with (fail)
  apply wp_region_lit
  iterate 6 go_step
  refine store_cell (o := ⟨none, _, _, _, _, _⟩) rfl _ _ _ rfl G 2 rfl (.int .i64 (nextR (nextR X.seed))) rfl rfl size_int q2 p2 ?_
  have hq := hHc.setSeed (nextR (nextR X.seed))
  have hHcl := hHc.lt
  generalize World.setCell wc _ _ = wd at hq
  obtain ⟨hHd, hg⟩ := hq
  have hbd := hbc.grown hg (by have := hRc.lt; omega) (fun j h => by simp only [Option.some.injEq] at h; have := hHc.ge; omega)
  have hRd := hRc.grown hg (by simp only [ne_eq, Option.some.injEq]; have := hHc.ge; omega)
  have hGlt := (hGa G (.inl rfl)).2
  have hSd := hSc.o.kept hg (.inr (fun e => by have := (hSc.o.ge _ e).1; omega))
  have hOd := hOc.kept hg (.inr (fun e => by have := (hOc.ge _ e).1; omega))
  clear hHc hbc hRc hSc hOc hg q2 p2
  simp only at hHd
  obtain ⟨go, oc, hgo, hgol⟩ : ∃ go oc, Value.slice vo us.length vc = .slice (some ⟨go, 0, none⟩) us.length oc ∧ go < wd.heap.size := by
    rcases hSd.val with ⟨_, e⟩ | ⟨g, c, e, _, hg, _⟩
    · omega
    · exact ⟨g, c, e, hg⟩
  obtain ⟨gr, rc, hgr, hgrl⟩ : ∃ gr rc, rq = .slice (some ⟨gr, 0, none⟩) 2 rc ∧ gr < wd.heap.size := by
    rcases hOd.val with ⟨_, e⟩ | ⟨g, c, e, _, hg, _⟩
    · omega
    · exact ⟨g, c, e, hg⟩
  simp only [Value.slice.injEq, true_and] at hgo
  obtain ⟨rfl, rfl⟩ := hgo
  subst hgr
  have s0 : wd.cell? ⟨go, q, none⟩ = some (.slice (some ⟨gr, 0, none⟩) 2 rc) := by rw [hSd.cell (by omega)]; exact hvq
  have s1 : wd.cell? ⟨gr, 0, none⟩ = some (.int .i64 px) := by rw [hOd.cell (by omega)]; rfl
  have s2 : wd.cell? ⟨gr, 1, none⟩ = some (.int .i64 py) := by rw [hOd.cell (by omega)]; rfl
  rw [hul] at *
  have d1 : (0 : Int) ≤ (q : Int) := by omega
  have d2 : (q : Int) < (sn : Int) := by omega
  clear hvq hSd hOd
  obtain ⟨XX, hXX⟩ : ∃ XX : Wd, (⟨X.rows, X.tick + 1, nextR (nextR X.seed), H1, H2⟩ : Wd) = XX := ⟨_, rfl⟩
  have hXb : XX.bodies = H2 := by rw [← hXX]
  have HIY := Lib.hid (fun k hk h1 => (HBB.out (hasI_yes (bs := H2) (p := (px, py)) (k := k) hk h1)).trans hXX)
  have HIN := Lib.hid (fun h1 => (HCC.out (hasI_no (bs := H2) (p := (px, py)) h1)).trans (show (⟨X.rows, X.tick + 1, nextR (nextR X.seed), H1, H2 ++ [itemB (px, py)]⟩ : Wd) = { XX with bodies := H2 ++ [itemB (px, py)] } by rw [← hXX]))
  rw [hXX] at hHd
  have HXB := Lib.hid hXb
  clear HBB HCC hXb
  have hI : StI w wd G x xs (.slice (some ⟨gb, 0, none⟩) H2.length cap) XX px py 0 := ⟨hHd, hbd, hRd, fun j hj => absurd hj (Nat.not_lt_zero _)⟩
  have q4 := hHd.blk.c4
  clear hXX hHd hbd hRd hHcl hGa hGlt
  obtain ⟨N, hNe⟩ : ∃ N, H2.length = N := ⟨_, rfl⟩
  rw [hNe] at hI q4 hHle hHmo
  have HNE := Lib.hid hNe
  clear hNe
  go_wp2_with fail
  clear q4 s0 s1 s2 d1 d2
  go_loopw [89] (fun i wr => ∃ k : Nat, k ≤ N ∧ i = .int .i64 k ∧ StI w wr G x xs (.slice (some ⟨gb, 0, none⟩) N cap) XX px py k) (fun i _ => N - (intOf i).toNat)
  case atStart => exact ⟨0, Nat.zero_le _, rfl, hI⟩
  case round =>
    clear hI
    obtain ⟨k, hk, rfl, ⟨hH, hb, hR, hno⟩⟩ := hrel
    have HNX := Lib.hid hno
    clear hno
    by_cases hlt : k < N
    · have hkX : k < XX.bodies.length := by rw [HXB.out, HNE.out]; exact hlt
      have hE := hH.elemAt (k := k) hkX
      have hRg := hE.range
      have HYk := Lib.hid (fun h1 => HIY.out k (by rw [HNE.out]; exact hlt) h1)
      have HNk := Lib.hid (fun (h1 : ¬ ((bAt XX.bodies k).kind = 2 ∧ (bAt XX.bodies k).x = px ∧ (bAt XX.bodies k).y = py)) => show ∀ j, j < k + 1 → ¬ ((bAt XX.bodies j).kind = 2 ∧ (bAt XX.bodies j).x = px ∧ (bAt XX.bodies j).y = py) from fun j hj => by
        by_cases e : j = k
        · subst e; exact h1
        · exact HNX.out j (by omega))
      rw [← HXB.out] at HYk
      clear hE HIY HIN HNX
      obtain ⟨b, hbe⟩ : ∃ b, bAt XX.bodies k = b := ⟨_, rfl⟩
      rw [hbe] at hRg HYk HNk
      clear hbe
      have c1 : (0 : Int) ≤ (k : Int) := by omega
      have c2 : (k : Int) < (N : Int) := by omega
      go_upto_region 19 with (fail)
      apply wp_region_lit
      iterate 3 go_step
      refine load_bod (op := ⟨some 92, _, _, _, _, _⟩) rfl _ rfl gb (k * 9) rfl b hRg ?_
      refine alloc_bod rfl rfl ?_
      have hBk := Blk.new wr 42 zB
      have hk0 : Below wr.heap.size wr (wr.alloc (.cells zB.cells.toArray 42)) := (Below.refl _ _).alloc (Nat.le_refl _) _
      change Blk (wr.alloc (.cells zB.cells.toArray 42)) wr.heap.size zB at hBk
      generalize World.alloc wr _ = w1 at hBk hk0
      refine store_bod (op := ⟨none, _, _, _, _, _⟩) rfl _ _ rfl wr.heap.size 0 rfl b rfl hBk.there ?_
      have hB2 := hBk.setAll b
      have hk1 : Below wr.heap.size wr (w1.setCells wr.heap.size 0 b.cells) := setCells_below hk0 (Nat.le_refl _)
      generalize World.setCells w1 _ _ _ = w2 at hB2 hk1
      have hH2 := hH.below hk1
      have hb2 := hb.trans (hk1.mono hb.size)
      have hR2 := hR.below hk1 hR.lt
      clear hBk hk0 hk1 hH hb hR hRg
      generalize wr.heap.size = bq at *
      have g0 := hB2.c0
      have g2 := hB2.c2
      have g3 := hB2.c3
      by_cases hall : b.kind = 2 ∧ b.x = px ∧ b.y = py
      · have HN := Lib.hid (HYk.out hall)
        obtain ⟨a1, a2, a3⟩ := hall
        have x1 : (b.kind == 2) = true := beq_iff_eq.2 a1
        have x2 : (b.x == px) = true := beq_iff_eq.2 a2
        have x3 : (b.y == py) = true := beq_iff_eq.2 a3
        clear a1 a2 a3 HYk HNk
        obtain ⟨tk, sd, sc, bs, rows, rfl⟩ : ∃ tk sd sc bs rows, XX = ⟨rows, tk, sd, sc, bs⟩ := ⟨_, _, _, _, _, rfl⟩
        go_upto_region 21 with (fail)
        have hOz := hH2.own
        have oz := slice_one hOz.at_.r
        have ozs := slice_one hOz.at_.s
        have ozb := slice_one hOz.at_.b
        apply wp_region_lit
        refine load_wld (op := ⟨some 108, _, _, _, _, _⟩) rfl _ rfl G rfl _ _ _ _ _ hH2.blk.range ?_
        refine store_wld (op := ⟨none, _, _, _, _, _⟩) rfl _ _ rfl (w.heap.size + 1) rfl _ _ _ _ _ rfl hR2.there oz ozs ozb ?_
        have hq := And.intro (hR2.setAll (u' := x) (us' := xs) (ub' := (.slice (some ⟨gb, 0, none⟩) N cap)) (tk' := (⟨rows, tk, sd, sc, bs⟩ : Wd).tick) (sd' := (⟨rows, tk, sd, sc, bs⟩ : Wd).seed)) (setCells_grown w2 (w.heap.size + 1) 0 (wcells x (⟨rows, tk, sd, sc, bs⟩ : Wd).tick (⟨rows, tk, sd, sc, bs⟩ : Wd).seed xs (.slice (some ⟨gb, 0, none⟩) N cap)))
        generalize World.setCells w2 _ _ _ = wn at hq
        obtain ⟨hRn, hgr⟩ := hq
        have hOn := (hOz.tch (S := fun i => i = w.heap.size + 1) (Tch.of_grown1 hgr rfl) (fun i hi e => by have := (hOz.ge i hi).1; omega)).mono (B' := w.heap.size) (by omega)
        have hbn : Below w.heap.size w wn := hb2.grown hgr (by have := hR2.lt; omega) (fun k h => by simp only [Option.some.injEq] at h; omega)
        repeat go_step
        refine bodyPost_ret (res_wld1 rfl rfl hRn.range) rfl ?_
        exact ⟨x, _, _, by rw [HN.out], by rw [HN.out]; exact hOn, hbn⟩
      · have HNN := Lib.hid (HNk.out hall)
        have hcs : (b.kind == 2) = false ∨ ((b.kind == 2) = true ∧ (b.x == px) = false) ∨ ((b.kind == 2) = true ∧ (b.x == px) = true ∧ (b.y == py) = false) := by
          by_cases a1 : b.kind = 2
          · by_cases a2 : b.x = px
            · exact .inr (.inr ⟨by simpa using a1, by simpa using a2, by simpa using fun a3 => hall ⟨a1, a2, a3⟩⟩)
            · exact .inr (.inl ⟨by simpa using a1, by simpa using a2⟩)
          · exact .inl (by simpa using a1)
        clear HYk HNk hall
        rcases hcs with x1 | ⟨x1, x2⟩ | ⟨x1, x2, x3⟩
        all_goals
          go_wp2_with fail
          go_roundw
          case rel => exact ⟨k + 1, by omega, by go_num, ⟨hH2, hb2, hR2, HNN.out⟩⟩
          case measure => simp [intOf]; omega
    · obtain rfl : k = N := by omega
      have HN := Lib.hid (HIN.out (fun j hj => by rw [HNE.out] at hj; have := HNX.out j hj; rwa [HXB.out] at this))
      clear HIN HIY HNX
      have q4 := hH.blk.c4
      go_upto_region 23 with (fail)
      apply wp_region_lit
      iterate 15 go_step
      refine lit_bod (o := ⟨some 115, _, _, _, _, _⟩) rfl _ rfl (itemB (px, py)) ?_ ?_
      · rfl
      have hq := own_lit wr (itemB (px, py))
      have hk6 : Below wr.heap.size wr (wr.alloc (.cells (itemB (px, py)).cells.toArray 42)) := (Below.refl _ _).alloc (Nat.le_refl _) _
      generalize World.alloc wr _ = wy at hq hk6
      have hH6 := hH.below hk6
      have hb6 := hb.trans (hk6.mono hb.size)
      have hR6 := hR.below hk6 hR.lt
      clear hH hb hR hk6 q4
      generalize itemB (px, py) = ib at *
      have hob := hH6.own.b
      rw [HXB.out, HNE.out] at hob
      simp only [Act.put, List.setIfInBounds_toArray, List.set_cons_zero, List.set_cons_succ]
      refine app_bods (o := ⟨some 116, _, _, _, _, _⟩) wy rfl _ _ rfl (w.heap.size + 2) hob rfl hq.at_ rfl (by omega) (by have := hR6.lt; omega) ?_
      intro v5 wz hv hg hvb
      have hHe := hH6.appB hv hg hvb
      have g4 := (hH6.blk.grown hg hH6.n3).c4
      have p4 := (hH6.blk.grown hg hH6.n3).f4
      have ov := slice_one hv.at_
      clear hv hg hvb hq hob
      simp only [Act.put, List.setIfInBounds_toArray, List.set_cons_zero, List.set_cons_succ]
      iterate 3 go_step
      refine store_cell (o := ⟨none, _, _, _, _, _⟩) rfl _ _ _ rfl G 4 rfl v5 rfl ov size_bods g4 p4 ?_
      generalize World.setCell wz _ _ = w7 at hHe
      obtain ⟨hH7, ht⟩ := hHe
      have hk7 : Below (w.heap.size + 2) wy w7 := hH6.tchBelow ht (fun i hi => hi.imp id fun e => .inr (.inr e))
      have hb7 := hb6.trans (hk7.mono (by omega))
      have hR7 := hR6.below hk7 (by omega)
      clear hH6 hb6 hR6 ht hk7 g4 p4 ov
      go_upto_region 24 with (fail)
      have hOz := hH7.own
      have oz := slice_one hOz.at_.r
      have ozs := slice_one hOz.at_.s
      have ozb := slice_one hOz.at_.b
      apply wp_region_lit
      refine load_wld (op := ⟨some 118, _, _, _, _, _⟩) rfl _ rfl G rfl _ _ _ _ _ hH7.blk.range ?_
      refine store_wld (op := ⟨none, _, _, _, _, _⟩) rfl _ _ rfl (w.heap.size + 1) rfl _ _ _ _ _ rfl hR7.there oz ozs ozb ?_
      have hq := And.intro (hR7.setAll (u' := x) (us' := xs) (ub' := v5) (tk' := ({ XX with bodies := H2 ++ [ib] } : Wd).tick) (sd' := ({ XX with bodies := H2 ++ [ib] } : Wd).seed)) (setCells_grown w7 (w.heap.size + 1) 0 (wcells x ({ XX with bodies := H2 ++ [ib] } : Wd).tick ({ XX with bodies := H2 ++ [ib] } : Wd).seed xs v5))
      generalize World.setCells w7 _ _ _ = wn at hq
      obtain ⟨hRn, hgr⟩ := hq
      have hOn := (hOz.tch (S := fun i => i = w.heap.size + 1) (Tch.of_grown1 hgr rfl) (fun i hi e => by have := (hOz.ge i hi).1; omega)).mono (B' := w.heap.size) (by omega)
      have hbn : Below w.heap.size w wn := hb7.grown hgr (by have := hR7.lt; omega) (fun k h => by simp only [Option.some.injEq] at h; omega)
      repeat go_step
      refine bodyPost_ret (res_wld1 rfl rfl hRn.range) rfl ?_
      exact ⟨x, _, _, by rw [HN.out], by rw [HN.out]; exact hOn, hbn⟩
end Go.Proofs.Ytmamihkcikgmcaa
