/- Texts Stw, Ht2, Cpb, Hts in one. -/
import Derived.Test.YtmamihkcikgmcaaKB
import Derived.Test.YtmamihkcikgmcaaKH
import Derived.Test.YtmamihkcikgmcaaKK
import Derived.Test.YtmamihkcikgmcaaKL
import Derived.Test.YtmamihkcikgmcaaKN
import Derived.Laws.IdiomCopy
/- StepWorld, the program's. -/
namespace Go.Proofs.Ytmamihkcikgmcaa
open Go.RowKit

theorem drop_app {pl r : List Bd} {n : Nat} (hp : pl.length = n) : (pl ++ r).drop n = r := by rw [← hp]; exact List.drop_left
theorem hits_fst (X : Wd) (n : Nat) {bs : List Bd} (hp : (shAll (bs.take n) X.scores (bs.drop n)).pl.length = n) :
    (itAll (((shAll (bs.take n) X.scores (bs.drop n)).pl ++ (shAll (bs.take n) X.scores (bs.drop n)).left).take n) (shAll (bs.take n) X.scores (bs.drop n)).sc (((shAll (bs.take n) X.scores (bs.drop n)).pl ++ (shAll (bs.take n) X.scores (bs.drop n)).left).drop n)).1 = (hitsT n X.scores bs).1 ∧
    (((shAll (bs.take n) X.scores (bs.drop n)).pl ++ (shAll (bs.take n) X.scores (bs.drop n)).left).take n) ++ (itAll (((shAll (bs.take n) X.scores (bs.drop n)).pl ++ (shAll (bs.take n) X.scores (bs.drop n)).left).take n) (shAll (bs.take n) X.scores (bs.drop n)).sc (((shAll (bs.take n) X.scores (bs.drop n)).pl ++ (shAll (bs.take n) X.scores (bs.drop n)).left).drop n)).2 = (hitsT n X.scores bs).2 := by
  rw [take_app hp, drop_app hp]
  exact ⟨rfl, rfl⟩
theorem rnd_in {s : Int} {n : Nat} (h1 : 0 ≤ s) (h2 : s ≤ 65535) (h3 : 1 ≤ n) (h4 : n ≤ 4096) : rnd1 s n = nextR s ∧ rnd2 s n = randT s n := by
  have h : rndOk s n := ⟨h1, h2, by omega, by omega⟩
  exact ⟨if_pos h, if_pos h⟩
theorem step_a {X : Wd} {row : List Int} {H : List Int × List Bd} (hH : hits1 X row = H) (h : (X.tick + 1) % 16 ≠ 0 ∨ (spotsT X.rows).length = 0 ∨ 24 ≤ H.2.length) : stepU X row = ⟨X.rows, X.tick + 1, nextR X.seed, H.1, H.2⟩ := by unfold stepU; simp only [hH]; rw [if_pos h]
theorem step_b {X : Wd} {row : List Int} {H : List Int × List Bd} {p : Int × Int} (hH : hits1 X row = H) (h : ¬ ((X.tick + 1) % 16 ≠ 0 ∨ (spotsT X.rows).length = 0 ∨ 24 ≤ H.2.length)) (hp : pAt (spotsT X.rows) (randT (nextR X.seed) (spotsT X.rows).length).toNat = p) (hi : hasItem H.2 p = true) : stepU X row = ⟨X.rows, X.tick + 1, nextR (nextR X.seed), H.1, H.2⟩ := by
  unfold stepU; simp only [hH]; rw [if_neg h, hp, if_pos hi]
theorem step_c {X : Wd} {row : List Int} {H : List Int × List Bd} {p : Int × Int} (hH : hits1 X row = H) (h : ¬ ((X.tick + 1) % 16 ≠ 0 ∨ (spotsT X.rows).length = 0 ∨ 24 ≤ H.2.length)) (hp : pAt (spotsT X.rows) (randT (nextR X.seed) (spotsT X.rows).length).toNat = p) (hi : ¬ hasItem H.2 p = true) : stepU X row = ⟨X.rows, X.tick + 1, nextR (nextR X.seed), H.1, H.2 ++ [itemB p]⟩ := by
  unfold stepU; simp only [hH]; rw [if_neg h, hp, if_neg hi]
theorem rowOk_iff {row : List Int} {n : Nat} (h : rowOk row n = true) : row.length = n ∧ ∀ k, k < n → 0 ≤ iAt row k ∧ iAt row k ≤ 15 := by
  unfold rowOk at h
  simp only [Bool.and_eq_true, decide_eq_true_eq] at h
  refine ⟨h.1, fun k hk => ?_⟩
  have := List.all_eq_true.1 h.2 (iAt row k) (by rw [iAt_eq (by omega)]; exact List.getElem_mem _)
  exact inB_iff.1 this
theorem hasI_take {bs : List Bd} {p : Int × Int} {k : Nat} (h : k < bs.length) : hasItem (bs.take (k + 1)) p = (hasItem (bs.take k) p || (decide ((bAt bs k).kind = 2) && (decide ((bAt bs k).x = p.1) && decide ((bAt bs k).y = p.2)))) := by
  unfold hasItem
  rw [List.take_add_one, List.getElem?_eq_getElem h, List.any_append, bAt_eq h]
  simp
theorem hasI_yes {bs : List Bd} {p : Int × Int} {k : Nat} (h : k < bs.length) (h1 : (bAt bs k).kind = 2 ∧ (bAt bs k).x = p.1 ∧ (bAt bs k).y = p.2) : hasItem bs p = true := by
  unfold hasItem
  rw [List.any_eq_true]
  exact ⟨bAt bs k, by rw [bAt_eq h]; exact List.getElem_mem _, by simp [h1]⟩
theorem hasI_no {bs : List Bd} {p : Int × Int} (h : ∀ k, k < bs.length → ¬ ((bAt bs k).kind = 2 ∧ (bAt bs k).x = p.1 ∧ (bAt bs k).y = p.2)) : ¬ hasItem bs p = true := by
  unfold hasItem
  rw [List.any_eq_true]
  rintro ⟨b, hb, h1⟩
  obtain ⟨k, hk, rfl⟩ := List.mem_iff_getElem.1 hb
  have := h k hk
  rw [bAt_eq hk] at this
  simp only [Bool.and_eq_true, decide_eq_true_eq] at h1
  exact this h1
theorem spL_at {l : List (Int × Int)} {k : Nat} (h : k < l.length) : lAt (spL l) k = [(pAt l k).1, (pAt l k).2] := by
  unfold lAt spL pAt List.getD
  rw [List.getElem?_map, List.getElem?_eq_getElem h]
  rfl
/-- the last loop's state -/
structure StI (w wr : World) (G : Nat) (x xs xb : Value) (XX : Wd) (px py : Int) (k : Nat) : Prop where
  hd : Hd wr (w.heap.size + 2) G x xs xb XX
  bl : Below w.heap.size w wr
  rs : WBlk wr (w.heap.size + 1) nilV 0 0 nilV nilV
  no : ∀ j, j < k → ¬ ((bAt XX.bodies j).kind = 2 ∧ (bAt XX.bodies j).x = px ∧ (bAt XX.bodies j).y = py)
set_option maxRecDepth 100000 in
set_option maxHeartbeats 16000000 in
theorem stepworld_impl {u us ub rv : Value} {X : Wd} {row : List Int} (w : World) (h : WAt w u us ub X) (hm : WSmall X) (hw : ∀ b ∈ X.bodies, BWf b) (hrow : At w 1 rv row.length (ints row)) (hrl : row.length ≤ 1048576) :
    Calls Try.prog 34 #[.agg #[u, .int .i64 X.tick, .int .i64 X.seed, us, ub], rv] w fun e w' => ∃ x xs xb, e = .returned (.agg #[x, .int .i64 (stepT X row).tick, .int .i64 (stepT X row).seed, xs, xb]) ∧ WOwn w' w.heap.size x xs xb (stepT X row) ∧ Below w.heap.size w w' := by
  have HCW : ∀ wx, Below w.heap.size w wx → Calls Try.prog 80 #[.agg #[u, .int .i64 X.tick, .int .i64 X.seed, us, ub]] wx fun e w' => ∃ x xs xb, e = .returned (.agg #[x, .int .i64 X.tick, .int .i64 X.seed, xs, xb]) ∧ WOwn w' wx.heap.size x xs xb X ∧ Below wx.heap.size wx w' := fun wx hx => copyw_impl wx (h.below hx) hm
  have HOW : ∀ wx, Below w.heap.size w wx → Calls Try.prog 53 #[.agg #[u, .int .i64 X.tick, .int .i64 X.seed, us, ub]] wx fun e w' => e = .returned (.bool (okW X)) ∧ Below wx.heap.size wx w' := fun wx hx => worldok_impl wx (h.below hx) hm hw
  have HRO : ∀ wx, Below w.heap.size w wx → Calls Try.prog 81 #[rv, .int .i64 (X.scores.length : Int)] wx fun e w' => e = .returned (.bool (rowOk row X.scores.length)) ∧ wx = w' := fun wx hx => rowok_impl X.scores.length wx (hrow.below hx) hrl hm.s
  have HNO : Hid (¬ (okW X = true ∧ X.tick ≠ 100000 ∧ rowOk row X.scores.length = true) → stepT X row = X) := Lib.hid (fun hh => if_neg hh)
  have HYES : Hid ((okW X = true ∧ X.tick ≠ 100000 ∧ rowOk row X.scores.length = true) → stepT X row = stepU X row) := Lib.hid (fun hh => if_pos hh)
  obtain ⟨so, scap, hus, _⟩ := h.s.cell
  subst hus
  go_enter Try.func34, Try.ntmps34
  go_upto_region 1 with (fail)
  generalize hw1 : (w.alloc _).alloc _ = w1
  have hb1 : Below w.heap.size w w1 := by rw [← hw1]; exact ((Below.refl _ _).alloc (Nat.le_refl _) _).alloc (by simp) _
  have hA1 : WBlk w1 w.heap.size u X.tick X.seed (.slice so X.scores.length scap) ub := by rw [← hw1]; exact (WBlk.new w _ u X.tick X.seed _ ub).alloc _
  have hR1 : WBlk w1 (w.heap.size + 1) nilV 0 0 nilV nilV := by
    rw [← hw1]
    have := WBlk.new (w.alloc (.cells #[u, .int .i64 X.tick, .int .i64 X.seed, .slice so X.scores.length scap, ub] 36)) 36 nilV 0 0 nilV nilV
    rwa [show (w.alloc (.cells #[u, .int .i64 X.tick, .int .i64 X.seed, .slice so X.scores.length scap, ub] 36)).heap.size = w.heap.size + 1 by simp] at this
  clear hw1
  apply wp_region_lit
  refine load_wld (op := ⟨some 13, _, _, _, _, _⟩) rfl _ rfl w.heap.size rfl u X.tick X.seed (.slice so X.scores.length scap) ub hA1.range ?_
  refine wpList_callC rfl 80 _ _ rfl Try.func80 (by kernel_rfl) (by kernel_rfl) #[.agg #[u, .int .i64 X.tick, .int .i64 X.seed, .slice so X.scores.length scap, ub]] (by kernel_rfl) (HCW _ hb1) ?_
  rintro e w2 ⟨x, xs, xb, rfl, hO, hk⟩
  refine ⟨_, rfl, ?_⟩
  have hb2 := hb1.trans (hk.mono hb1.size)
  have hA2 := hA1.below hk hA1.lt
  have hR2 := hR1.below hk hR1.lt
  have hO2 := hO.mono (B' := w.heap.size + 2) (by have := hR1.lt; omega)
  clear hk hb1 hA1 hR1 hO HCW
  have ox := slice_one hO2.at_.r
  have oxs := slice_one hO2.at_.s
  have oxb := slice_one hO2.at_.b
  simp only [Act.put, List.setIfInBounds_toArray, List.set_cons_zero, List.set_cons_succ]
  refine alloc_wld rfl rfl ?_
  refine store_wld (op := ⟨none, _, _, _, _, _⟩) rfl _ _ rfl w2.heap.size rfl x X.tick X.seed xs xb rfl (zwthere _ _) ox oxs oxb ?_
  have hq := newW5 hb2 hb2.size 36 x X.tick X.seed xs xb
  change WBlk (World.setCells (World.alloc w2 (.cells #[nilV, .int .i64 0, .int .i64 0, nilV, nilV] _)) _ _ _) _ _ _ _ _ _ ∧ _ ∧ _ at hq
  generalize hwn : World.setCells (World.alloc w2 _) _ _ _ = w3
  have hq' : WBlk w3 w2.heap.size x X.tick X.seed xs xb ∧ Below w.heap.size w w3 ∧ Below w2.heap.size w2 w3 := by rw [← hwn]; exact hq
  clear hq hwn
  obtain ⟨hG, hb3, hk⟩ := hq'
  have hA3 := hA2.below hk hA2.lt
  have hR3 := hR2.below hk hR2.lt
  have hH3 : Hd w3 (w.heap.size + 2) w2.heap.size x xs xb X := ⟨hG, hO2.below hk, (fun e => by have := (hO2.r.ge _ e).2; omega), (fun e => by have := (hO2.s.ge _ e).2; omega), (fun e => by have := (hO2.b.ge _ e).2; omega), by have := hR2.lt; omega⟩
  clear hG hk hA2 hR2 hO2 hb2 ox oxs oxb
  generalize w2.heap.size = G at *
  go_upto_region 2 with (fail)
  obtain ⟨_, c0, c1, c2, c3, c4, _⟩ := id hA3
  apply wp_region_lit
  refine load_wld (op := ⟨some 15, _, _, _, _, _⟩) rfl _ rfl w.heap.size rfl u X.tick X.seed (.slice so X.scores.length scap) ub hA3.range ?_
  refine wpList_callC rfl 53 _ _ rfl Try.func53 (by kernel_rfl) (by kernel_rfl) #[.agg #[u, .int .i64 X.tick, .int .i64 X.seed, .slice so X.scores.length scap, ub]] (by kernel_rfl) (HOW _ hb3) ?_
  rintro e w4 ⟨rfl, hk⟩
  refine ⟨_, rfl, ?_⟩
  have hb4 := hb3.trans (hk.mono hb3.size)
  have hA4 := hA3.below hk hA3.lt
  have hR4 := hR3.below hk hR3.lt
  have hH4 := hH3.below hk
  clear hk hb3 hA3 hR3 hH3 HOW c0 c1 c2 c3 c4
  obtain ⟨_, c0, c1, c2, c3, c4, _⟩ := id hA4
  simp only [Act.put, List.setIfInBounds_toArray, List.set_cons_zero, List.set_cons_succ]
  cases hok : okW X with
  | false =>
    have HN := Lib.hid (HNO.out (fun e => by rw [hok] at e; cases e.1))
    clear hok HRO
    go_upto_region 3 with (fail)
    have hOz := hH4.own
    have oz := slice_one hOz.at_.r
    have ozs := slice_one hOz.at_.s
    have ozb := slice_one hOz.at_.b
    apply wp_region_lit
    refine load_wld (op := ⟨some 31, _, _, _, _, _⟩) rfl _ rfl G rfl _ _ _ _ _ hH4.blk.range ?_
    refine store_wld (op := ⟨none, _, _, _, _, _⟩) rfl _ _ rfl (w.heap.size + 1) rfl _ _ _ _ _ rfl hR4.there oz ozs ozb ?_
    have hq := And.intro (hR4.setAll (u' := x) (us' := xs) (ub' := xb) (tk' := (X : Wd).tick) (sd' := (X : Wd).seed)) (setCells_grown w4 (w.heap.size + 1) 0 (wcells x (X : Wd).tick (X : Wd).seed xs xb))
    generalize World.setCells w4 _ _ _ = wn at hq
    obtain ⟨hRn, hgr⟩ := hq
    have hOn := (hOz.tch (S := fun i => i = w.heap.size + 1) (Tch.of_grown1 hgr rfl) (fun i hi e => by have := (hOz.ge i hi).1; omega)).mono (B' := w.heap.size) (by omega)
    have hbn : Below w.heap.size w wn := hb4.grown hgr (by have := hR4.lt; omega) (fun k h => by simp only [Option.some.injEq] at h; omega)
    repeat go_step
    refine bodyPost_ret (res_wld1 rfl rfl hRn.range) rfl ?_
    exact ⟨x, _, _, by rw [HN.out], by rw [HN.out]; exact hOn, hbn⟩
  | true =>
  by_cases htk : X.tick = 100000
  · have HN := Lib.hid (HNO.out (fun e => e.2.1 htk))
    have x1 : (X.tick == 100000) = true := beq_iff_eq.2 htk
    clear hok HRO htk
    go_upto_region 3 with (fail)
    have hOz := hH4.own
    have oz := slice_one hOz.at_.r
    have ozs := slice_one hOz.at_.s
    have ozb := slice_one hOz.at_.b
    apply wp_region_lit
    refine load_wld (op := ⟨some 31, _, _, _, _, _⟩) rfl _ rfl G rfl _ _ _ _ _ hH4.blk.range ?_
    refine store_wld (op := ⟨none, _, _, _, _, _⟩) rfl _ _ rfl (w.heap.size + 1) rfl _ _ _ _ _ rfl hR4.there oz ozs ozb ?_
    have hq := And.intro (hR4.setAll (u' := x) (us' := xs) (ub' := xb) (tk' := (X : Wd).tick) (sd' := (X : Wd).seed)) (setCells_grown w4 (w.heap.size + 1) 0 (wcells x (X : Wd).tick (X : Wd).seed xs xb))
    generalize World.setCells w4 _ _ _ = wn at hq
    obtain ⟨hRn, hgr⟩ := hq
    have hOn := (hOz.tch (S := fun i => i = w.heap.size + 1) (Tch.of_grown1 hgr rfl) (fun i hi e => by have := (hOz.ge i hi).1; omega)).mono (B' := w.heap.size) (by omega)
    have hbn : Below w.heap.size w wn := hb4.grown hgr (by have := hR4.lt; omega) (fun k h => by simp only [Option.some.injEq] at h; omega)
    repeat go_step
    refine bodyPost_ret (res_wld1 rfl rfl hRn.range) rfl ?_
    exact ⟨x, _, _, by rw [HN.out], by rw [HN.out]; exact hOn, hbn⟩
  have x1 : (X.tick == 100000) = false := beq_eq_false_iff_ne.2 htk
  cases hro : rowOk row X.scores.length with
  | false =>
    have HN := Lib.hid (HNO.out (fun e => by rw [hro] at e; cases e.2.2))
    rw [hro] at HRO
    clear hok htk hro
    go_wp2_with fail
    refine (HRO _ hb4).mono ?_
    rintro e wx ⟨rfl, rfl⟩
    go_upto_region 3 with (fail)
    have hOz := hH4.own
    have oz := slice_one hOz.at_.r
    have ozs := slice_one hOz.at_.s
    have ozb := slice_one hOz.at_.b
    apply wp_region_lit
    refine load_wld (op := ⟨some 31, _, _, _, _, _⟩) rfl _ rfl G rfl _ _ _ _ _ hH4.blk.range ?_
    refine store_wld (op := ⟨none, _, _, _, _, _⟩) rfl _ _ rfl (w.heap.size + 1) rfl _ _ _ _ _ rfl hR4.there oz ozs ozb ?_
    have hq := And.intro (hR4.setAll (u' := x) (us' := xs) (ub' := xb) (tk' := (X : Wd).tick) (sd' := (X : Wd).seed)) (setCells_grown w4 (w.heap.size + 1) 0 (wcells x (X : Wd).tick (X : Wd).seed xs xb))
    generalize World.setCells w4 _ _ _ = wn at hq
    obtain ⟨hRn, hgr⟩ := hq
    have hOn := (hOz.tch (S := fun i => i = w.heap.size + 1) (Tch.of_grown1 hgr rfl) (fun i hi e => by have := (hOz.ge i hi).1; omega)).mono (B' := w.heap.size) (by omega)
    have hbn : Below w.heap.size w wn := hb4.grown hgr (by have := hR4.lt; omega) (fun k h => by simp only [Option.some.injEq] at h; omega)
    repeat go_step
    refine bodyPost_ret (res_wld1 rfl rfl hRn.range) rfl ?_
    exact ⟨x, _, _, by rw [HN.out], by rw [HN.out]; exact hOn, hbn⟩
  | true =>
  have HN := Lib.hid (HYES.out ⟨hok, htk, hro⟩)
  have hX := okW_ok hok
  obtain ⟨hr1, hr2⟩ := rowOk_iff hro
  rw [hro] at HRO
  clear hok htk hro HNO HYES
  go_wp2_with fail
  refine (HRO _ hb4).mono ?_
  rintro e wx ⟨rfl, rfl⟩
  clear c0 c1 c2 c3 c4 x1 hA4 HRO
  have hrowB : ∀ wx, Below (w.heap.size + 2) w4 wx → At wx 1 rv row.length (ints row) := fun wx hx => hrow.below (hb4.trans (hx.mono (by omega)))
  have hPL := players_impl w4 hH4 hX.lv hX.n.1 hX.n.2 hX.bods hrowB hr1 hr2
  have hB1 := plUp_ok row hX.lv hX.n.2 hX.bods X.scores.length (Nat.le_refl _)
  have hB2 := mvAll_ok hB1
  have hb1e : Hid (bodies1 X row = mvAll X.rows (plUp X.rows row X.bodies X.scores.length)) := Lib.hid rfl
  have HH1 : Hid (hits1 X row = hitsT X.scores.length X.scores (bodies1 X row)) := Lib.hid rfl
  rw [← hb1e.out] at hB2
  have hsc : Scs X.scores.length X.scores := ⟨rfl, hX.sc⟩
  have hSH := shAll_ok (l := X.rows) (n := X.scores.length) (sc0 := X.scores) ((bodies1 X row).drop X.scores.length) ⟨(bodies1 X row).take X.scores.length, X.scores, []⟩ ⟨pls_take hB2, hsc, fun _ _ => Int.le_refl _, fun b hb => by simp at hb⟩ hB2.ot
  have hSL := shAll_left ((bodies1 X row).drop X.scores.length) ⟨(bodies1 X row).take X.scores.length, X.scores, []⟩
  have hST0 : ((bodies1 X row).drop X.scores.length).foldl shStep ⟨(bodies1 X row).take X.scores.length, X.scores, []⟩ = shAll ((bodies1 X row).take X.scores.length) X.scores ((bodies1 X row).drop X.scores.length) := rfl
  rw [hST0] at hSH hSL
  have hF := hits_fst X X.scores.length (bs := bodies1 X row) hSH.pl.len
  have hHO := hits_ok hsc hB2
  rw [← HH1.out] at hF hHO
  have hle2 := hB2.le
  have hmo2 := hB2.most
  simp only [List.length_nil, List.length_drop] at hSL
  go_upto_region 4 with (fail)
  apply wp_region_lit
  iterate 3 go_step
  refine wpList_callC rfl 82 _ _ rfl Try.func82 (by kernel_rfl) (by kernel_rfl) #[.pointer (some ⟨G, 0, none⟩), rv] (by kernel_rfl) hPL ?_
  rintro e w5 ⟨rfl, ⟨xb5, hH5⟩, hk⟩
  refine ⟨_, rfl, ?_⟩
  have hb5 := hb4.trans (hk.mono (by omega))
  have hR5 := hR4.below hk (by omega)
  clear hb4 hR4 hH4 hk hPL hrowB
  simp only [Act.put, List.setIfInBounds_toArray, List.set_cons_zero, List.set_cons_succ]
  go_upto_region 5 with (fail)
  apply wp_region_lit
  refine wpList_callC rfl 83 _ _ rfl Try.func83 (by kernel_rfl) (by kernel_rfl) #[.pointer (some ⟨G, 0, none⟩)] (by kernel_rfl) (moves_impl w5 hH5 hX.lv hX.n.1 hB1) ?_
  rintro e w6 ⟨rfl, ⟨xb6, hH6⟩, hk⟩
  refine ⟨_, rfl, ?_⟩
  have hb6 := hb5.trans (hk.mono (by omega))
  have hR6 := hR5.below hk (by omega)
  clear hb5 hR5 hH5 hk hB1
  simp only at hH6
  rw [← hb1e.out] at hH6
  simp only [Act.put, List.setIfInBounds_toArray, List.set_cons_zero, List.set_cons_succ]
  go_upto_region 6 with (fail)
  apply wp_region_lit
  refine wpList_callC rfl 84 _ _ rfl Try.func84 (by kernel_rfl) (by kernel_rfl) #[.pointer (some ⟨G, 0, none⟩)] (by kernel_rfl) (shots_impl w6 hH6 hX.n.1 hX.n.2 hle2 hmo2 hsc hB2) ?_
  rintro e w7 ⟨rfl, ⟨xb7, hH7⟩, hk⟩
  refine ⟨_, rfl, ?_⟩
  have hb7 := hb6.trans (hk.mono (by omega))
  have hR7 := hR6.below hk (by omega)
  clear hb6 hR6 hH6 hk
  simp only at hH7
  have hIT := items_impl w7 hH7 (by show 1 ≤ List.length _; rw [hSH.sc.len]; exact hX.n.1) (by show List.length _ ≤ 4; rw [hSH.sc.len]; exact hX.n.2) (by show List.length _ ≤ List.length (_ ++ _); rw [hSH.sc.len, List.length_append, hSH.pl.len]; omega) (by show List.length (_ ++ _) ≤ 24; rw [List.length_append, hSH.pl.len]; omega) (by show Scs (List.length _) _; rw [hSH.sc.len]; exact hSH.sc)
  simp only [hSH.sc.len] at hIT
  rw [hF.1, hF.2] at hIT
  simp only [Act.put, List.setIfInBounds_toArray, List.set_cons_zero, List.set_cons_succ]
  go_upto_region 7 with (fail)
  apply wp_region_lit
  refine wpList_callC rfl 85 _ _ rfl Try.func85 (by kernel_rfl) (by kernel_rfl) #[.pointer (some ⟨G, 0, none⟩)] (by kernel_rfl) hIT ?_
  rintro e w8 ⟨rfl, ⟨xb8, hH8⟩, hk⟩
  refine ⟨_, rfl, ?_⟩
  have hb8 := hb7.trans (hk.mono (by omega))
  have hR8 := hR7.below hk (by omega)
  clear hb7 hR7 hH7 hk hIT hF hSH hSL hST0 hle2 hmo2 hB2 hb1e HH1 hsc
  simp only [Act.put, List.setIfInBounds_toArray, List.set_cons_zero, List.set_cons_succ]
  obtain ⟨H, hHe⟩ : ∃ H, hits1 X row = H := ⟨_, rfl⟩
  rw [hHe] at hH8 hHO
  have HA := Lib.hid (fun q => HN.out.trans (step_a hHe q))
  have HB := Lib.hid (fun p q hp hi => HN.out.trans (step_b (p := p) hHe q hp hi))
  have HC := Lib.hid (fun p q hp hi => HN.out.trans (step_c (p := p) hHe q hp hi))
  have htk := hX.tick
  have hsd := hX.seed
  have hlv := hX.lv
  have hn1 := hX.n.1
  obtain ⟨hHsc, _, hHb⟩ := hHO
  have hHle := hHb.le
  have hHmo := hHb.most
  have hscl := hHsc.len
  clear hHe HN hX hr1 hr2 hrow hrl hHsc hHb
  obtain ⟨H1, H2⟩ := H
  simp only at hH8 HA HB HC hHle hHmo
  have q1 := hH8.blk.c1
  have p1 := hH8.blk.f1
  simp only at q1
  go_upto_region 8 with (fail)
  apply wp_region_lit
  iterate 12 go_step
  refine store_cell (o := ⟨none, _, _, _, _, _⟩) rfl _ _ _ rfl G 1 rfl (.int .i64 (X.tick + 1)) rfl rfl size_int q1 p1 ?_
  have hq := hH8.setTick (X.tick + 1)
  generalize World.setCell w8 _ _ = w9 at hq
  obtain ⟨hH9, hg⟩ := hq
  have hb9 := hb8.grown hg (by have := hR8.lt; omega) (fun j h => by simp only [Option.some.injEq] at h; have := hH8.ge; omega)
  have hR9 := hR8.grown hg (by simp only [ne_eq, Option.some.injEq]; have := hH8.ge; omega)
  clear hH8 hb8 hR8 hg q1 p1
  simp only at hH9
  have q2 := hH9.blk.c2
  have p2 := hH9.blk.f2
  simp only at q2
  go_upto_region 9 with (fail)
  apply wp_region_lit
  iterate 6 go_step
  refine wpList_callC rfl 86 _ _ rfl Try.func86 (by kernel_rfl) (by kernel_rfl) #[.int .i64 X.seed] (by kernel_rfl) (next_impl X.seed w9) ?_
  rintro e wx ⟨rfl, rfl⟩
  refine ⟨_, rfl, ?_⟩
  simp only [Act.put, List.setIfInBounds_toArray, List.set_cons_zero, List.set_cons_succ]
  iterate 3 go_step
  refine store_cell (o := ⟨none, _, _, _, _, _⟩) rfl _ _ _ rfl G 2 rfl (.int .i64 (nextR X.seed)) rfl rfl size_int q2 p2 ?_
  have hq := hH9.setSeed (nextR X.seed)
  generalize World.setCell w9 _ _ = wa at hq
  obtain ⟨hHa, hg⟩ := hq
  have hba := hb9.grown hg (by have := hR9.lt; omega) (fun j h => by simp only [Option.some.injEq] at h; have := hH9.ge; omega)
  have hRa := hR9.grown hg (by simp only [ne_eq, Option.some.injEq]; have := hH9.ge; omega)
  clear hH9 hb9 hR9 hg q2 p2
  simp only at hHa
  have q0 := hHa.blk.c0
  obtain ⟨hl12, hl20⟩ := lv_sizes hlv
  have hSP := spots_impl wa hHa.own.at_.r (by show X.rows.length ≤ 1048576; omega) (fun s hs => by have := hl20 s hs; omega)
  simp only at hSP
  have hsn := spots_len X.rows
  have hsl := spL_len (spotsT X.rows)
  have HSA := Lib.hid (fun k hk => spL_at (l := spotsT X.rows) (k := k) hk)
  go_upto_region 10 with (fail)
  apply wp_region_lit
  iterate 6 go_step
  refine wpList_callC rfl 87 _ _ rfl Try.func87 (by kernel_rfl) (by kernel_rfl) #[.agg #[x]] (by kernel_rfl) hSP ?_
  rintro e wb ⟨v, us, rfl, hSS, hk⟩
  refine ⟨_, rfl, ?_⟩
  have hHb := hHa.below hk
  have hbb := hba.trans (hk.mono hba.size)
  have hRb := hRa.below hk hRa.lt
  have hGa := hHa.lt
  clear hHa hba hRa hk q0 hSP hl12 hl20
  have hul := hSS.n
  rw [hsl] at hul
  clear hsl
  obtain ⟨sn, hsne⟩ : ∃ sn, (spotsT X.rows).length = sn := ⟨_, rfl⟩
  rw [hsne] at hul hsn HA HB HC
  have HSN := Lib.hid hsne
  clear hsne
  obtain ⟨vo, vc, rfl⟩ := hSS.o.slice_
  simp only [Act.put, List.setIfInBounds_toArray, List.set_cons_zero, List.set_cons_succ]
  obtain ⟨gb, cap, hxb, hgb⟩ := hHb.formB (by show 0 < H2.length; omega)
  subst hxb
  simp only at hHb
  have q1 := hHb.blk.c1
  have q4 := hHb.blk.c4
  simp only at q1
  rw [hul]
  have b6 : (0 : Int) ≤ X.tick + 1 := by omega
  by_cases ht : (X.tick + 1) % 16 ≠ 0
  · have HN := Lib.hid (HA.out (.inl ht))
    have x1 : ((X.tick + 1) % 16 != 0) = true := by simpa using ht
    clear HA HB HC ht
    go_upto_region 12 with (fail)
    have hOz := hHb.own
    have oz := slice_one hOz.at_.r
    have ozs := slice_one hOz.at_.s
    have ozb := slice_one hOz.at_.b
    apply wp_region_lit
    refine load_wld (op := ⟨some 63, _, _, _, _, _⟩) rfl _ rfl G rfl _ _ _ _ _ hHb.blk.range ?_
    refine store_wld (op := ⟨none, _, _, _, _, _⟩) rfl _ _ rfl (w.heap.size + 1) rfl _ _ _ _ _ rfl hRb.there oz ozs ozb ?_
    have hq := And.intro (hRb.setAll (u' := x) (us' := xs) (ub' := (.slice (some ⟨gb, 0, none⟩) H2.length cap)) (tk' := (⟨X.rows, X.tick + 1, nextR X.seed, H1, H2⟩ : Wd).tick) (sd' := (⟨X.rows, X.tick + 1, nextR X.seed, H1, H2⟩ : Wd).seed)) (setCells_grown wb (w.heap.size + 1) 0 (wcells x (⟨X.rows, X.tick + 1, nextR X.seed, H1, H2⟩ : Wd).tick (⟨X.rows, X.tick + 1, nextR X.seed, H1, H2⟩ : Wd).seed xs (.slice (some ⟨gb, 0, none⟩) H2.length cap)))
    generalize World.setCells wb _ _ _ = wn at hq
    obtain ⟨hRn, hgr⟩ := hq
    have hOn := (hOz.tch (S := fun i => i = w.heap.size + 1) (Tch.of_grown1 hgr rfl) (fun i hi e => by have := (hOz.ge i hi).1; omega)).mono (B' := w.heap.size) (by omega)
    have hbn : Below w.heap.size w wn := hbb.grown hgr (by have := hRb.lt; omega) (fun k h => by simp only [Option.some.injEq] at h; omega)
    repeat go_step
    refine bodyPost_ret (res_wld1 rfl rfl hRn.range) rfl ?_
    exact ⟨x, _, _, by rw [HN.out], by rw [HN.out]; exact hOn, hbn⟩
  have x1 : ((X.tick + 1) % 16 != 0) = false := by simp at ht ⊢; omega
  by_cases hs0 : sn = 0
  · have HN := Lib.hid (HA.out (.inr (.inl hs0)))
    have x2 : ((sn : Int) == 0) = true := by simp; omega
    clear HA HB HC ht hs0
    go_upto_region 12 with (fail)
    have hOz := hHb.own
    have oz := slice_one hOz.at_.r
    have ozs := slice_one hOz.at_.s
    have ozb := slice_one hOz.at_.b
    apply wp_region_lit
    refine load_wld (op := ⟨some 63, _, _, _, _, _⟩) rfl _ rfl G rfl _ _ _ _ _ hHb.blk.range ?_
    refine store_wld (op := ⟨none, _, _, _, _, _⟩) rfl _ _ rfl (w.heap.size + 1) rfl _ _ _ _ _ rfl hRb.there oz ozs ozb ?_
    have hq := And.intro (hRb.setAll (u' := x) (us' := xs) (ub' := (.slice (some ⟨gb, 0, none⟩) H2.length cap)) (tk' := (⟨X.rows, X.tick + 1, nextR X.seed, H1, H2⟩ : Wd).tick) (sd' := (⟨X.rows, X.tick + 1, nextR X.seed, H1, H2⟩ : Wd).seed)) (setCells_grown wb (w.heap.size + 1) 0 (wcells x (⟨X.rows, X.tick + 1, nextR X.seed, H1, H2⟩ : Wd).tick (⟨X.rows, X.tick + 1, nextR X.seed, H1, H2⟩ : Wd).seed xs (.slice (some ⟨gb, 0, none⟩) H2.length cap)))
    generalize World.setCells wb _ _ _ = wn at hq
    obtain ⟨hRn, hgr⟩ := hq
    have hOn := (hOz.tch (S := fun i => i = w.heap.size + 1) (Tch.of_grown1 hgr rfl) (fun i hi e => by have := (hOz.ge i hi).1; omega)).mono (B' := w.heap.size) (by omega)
    have hbn : Below w.heap.size w wn := hbb.grown hgr (by have := hRb.lt; omega) (fun k h => by simp only [Option.some.injEq] at h; omega)
    repeat go_step
    refine bodyPost_ret (res_wld1 rfl rfl hRn.range) rfl ?_
    exact ⟨x, _, _, by rw [HN.out], by rw [HN.out]; exact hOn, hbn⟩
  have x2 : ((sn : Int) == 0) = false := by simp; omega
  by_cases h24 : 24 ≤ H2.length
  · have HN := Lib.hid (HA.out (.inr (.inr h24)))
    have x3 : decide ((H2.length : Int) ≥ 24) = true := decide_eq_true (by omega)
    clear HA HB HC ht hs0 h24
    go_upto_region 12 with (fail)
    have hOz := hHb.own
    have oz := slice_one hOz.at_.r
    have ozs := slice_one hOz.at_.s
    have ozb := slice_one hOz.at_.b
    apply wp_region_lit
    refine load_wld (op := ⟨some 63, _, _, _, _, _⟩) rfl _ rfl G rfl _ _ _ _ _ hHb.blk.range ?_
    refine store_wld (op := ⟨none, _, _, _, _, _⟩) rfl _ _ rfl (w.heap.size + 1) rfl _ _ _ _ _ rfl hRb.there oz ozs ozb ?_
    have hq := And.intro (hRb.setAll (u' := x) (us' := xs) (ub' := (.slice (some ⟨gb, 0, none⟩) H2.length cap)) (tk' := (⟨X.rows, X.tick + 1, nextR X.seed, H1, H2⟩ : Wd).tick) (sd' := (⟨X.rows, X.tick + 1, nextR X.seed, H1, H2⟩ : Wd).seed)) (setCells_grown wb (w.heap.size + 1) 0 (wcells x (⟨X.rows, X.tick + 1, nextR X.seed, H1, H2⟩ : Wd).tick (⟨X.rows, X.tick + 1, nextR X.seed, H1, H2⟩ : Wd).seed xs (.slice (some ⟨gb, 0, none⟩) H2.length cap)))
    generalize World.setCells wb _ _ _ = wn at hq
    obtain ⟨hRn, hgr⟩ := hq
    have hOn := (hOz.tch (S := fun i => i = w.heap.size + 1) (Tch.of_grown1 hgr rfl) (fun i hi e => by have := (hOz.ge i hi).1; omega)).mono (B' := w.heap.size) (by omega)
    have hbn : Below w.heap.size w wn := hbb.grown hgr (by have := hRb.lt; omega) (fun k h => by simp only [Option.some.injEq] at h; omega)
    repeat go_step
    refine bodyPost_ret (res_wld1 rfl rfl hRn.range) rfl ?_
    exact ⟨x, _, _, by rw [HN.out], by rw [HN.out]; exact hOn, hbn⟩
  have x3 : decide ((H2.length : Int) ≥ 24) = false := decide_eq_false (by omega)
  have HNA : ¬ ((X.tick + 1) % 16 ≠ 0 ∨ sn = 0 ∨ 24 ≤ H2.length) := by omega
  obtain ⟨hrn1, hrn2⟩ := rnd_in (n := sn) (nextR_bd X.seed).1 (nextR_bd X.seed).2 (by omega) (by omega)
  have hrd := rand_lt (s := nextR X.seed) hs0
  rw [HSN.out] at HSA
  obtain ⟨q, hqe⟩ : ∃ q : Nat, randT (nextR X.seed) sn = q := ⟨(randT (nextR X.seed) sn).toNat, by omega⟩
  rw [hqe] at hrn2 hrd HB HC
  rw [Int.toNat_natCast] at hrd HB HC
  have hqn := hrd.2
  have HAT := Lib.hid (HSA.out q hqn)
  obtain ⟨⟨px, py⟩, hp⟩ : ∃ p, pAt (spotsT X.rows) q = p := ⟨_, rfl⟩
  rw [hp] at HAT
  have HBB := Lib.hid (fun hi => HB.out (px, py) HNA hp hi)
  have HCC := Lib.hid (fun hi => HC.out (px, py) HNA hp hi)
  have hRO := hSS.r q (by rw [← hSS.n]; omega)
  rw [HAT.out] at hRO
  simp only [List.length_cons, List.length_nil, Nat.zero_add, Nat.reduceAdd, ints, List.map_cons, List.map_nil] at hRO
  have hvq : us[q]? = some (vAt us q) := vAt_get (by omega)
  have hrx := rnd_impl (nextR X.seed) sn wb
  rw [hrn1, hrn2] at hrx
  have q2 := hHb.blk.c2
  simp only at q2
  clear HA HB HC HNA hp HSA hrn1 hrn2 hqe hrd hs0 ht h24 HAT
  generalize vAt us q = rq at *
  go_upto_region 13 with (fail)
  apply wp_region_lit
  iterate 12 go_step
  refine wpList_callC rfl 88 _ _ rfl Try.func88 (by kernel_rfl) (by kernel_rfl) #[.int .i64 (nextR X.seed), .int .i64 (sn : Int)] (by kernel_rfl) hrx ?_
  rintro e wc ⟨rfl, kd, rfl⟩
  refine ⟨_, rfl, ?_⟩
  have hkd : Below wb.heap.size wb (wb.drewN kd) := below_drewN (Below.refl _ _) kd
  have hHc := hHb.below hkd
  have hbc := hbb.trans (hkd.mono hbb.size)
  have hRc := hRb.below hkd hRb.lt
  have hSc := hSS.belowS hkd
  have hOc := hRO.belowS hkd
  clear hHb hbb hRb hSS hRO hkd hrx q1 q4 q2 x1 x2 x3
  generalize wb.drewN kd = wc at *
  simp only [Act.put, List.setIfInBounds_toArray, List.set_cons_zero, List.set_cons_succ]
  have q2 := hHc.blk.c2
  have p2 := hHc.blk.f2
  simp only at q2
  go_upto_region 14 with (fail)
  apply wp_region_lit
  iterate 6 go_step
  refine store_cell (o := ⟨none, _, _, _, _, _⟩) rfl _ _ _ rfl G 2 rfl (.int .i64 (nextR (nextR X.seed))) rfl rfl size_int q2 p2 ?_
  have hq := hHc.setSeed (nextR (nextR X.seed))
  have hHcl := hHc.lt
  generalize World.setCell wc _ _ = wd at hq
  obtain ⟨hHd, hg⟩ := hq
  have hbd := hbc.grown hg (by have := hRc.lt; omega) (fun j h => by simp only [Option.some.injEq] at h; have := hHc.ge; omega)
  have hRd := hRc.grown hg (by simp only [ne_eq, Option.some.injEq]; have := hHc.ge; omega)
  have hGlt := (hGa G (.inl rfl)).2
  have hSd := hSc.o.kept hg (.inr (fun e => by have := (hSc.o.ge _ e).1; omega))
  have hOd := hOc.kept hg (.inr (fun e => by have := (hOc.ge _ e).1; omega))
  clear hHc hbc hRc hSc hOc hg q2 p2
  simp only at hHd
  obtain ⟨go, oc, hgo, hgol⟩ : ∃ go oc, Value.slice vo us.length vc = .slice (some ⟨go, 0, none⟩) us.length oc ∧ go < wd.heap.size := by
    rcases hSd.val with ⟨_, e⟩ | ⟨g, c, e, _, hg, _⟩
    · omega
    · exact ⟨g, c, e, hg⟩
  obtain ⟨gr, rc, hgr, hgrl⟩ : ∃ gr rc, rq = .slice (some ⟨gr, 0, none⟩) 2 rc ∧ gr < wd.heap.size := by
    rcases hOd.val with ⟨_, e⟩ | ⟨g, c, e, _, hg, _⟩
    · omega
    · exact ⟨g, c, e, hg⟩
  simp only [Value.slice.injEq, true_and] at hgo
  obtain ⟨rfl, rfl⟩ := hgo
  subst hgr
  have s0 : wd.cell? ⟨go, q, none⟩ = some (.slice (some ⟨gr, 0, none⟩) 2 rc) := by rw [hSd.cell (by omega)]; exact hvq
  have s1 : wd.cell? ⟨gr, 0, none⟩ = some (.int .i64 px) := by rw [hOd.cell (by omega)]; rfl
  have s2 : wd.cell? ⟨gr, 1, none⟩ = some (.int .i64 py) := by rw [hOd.cell (by omega)]; rfl
  rw [hul] at *
  have d1 : (0 : Int) ≤ (q : Int) := by omega
  have d2 : (q : Int) < (sn : Int) := by omega
  clear hvq hSd hOd
  obtain ⟨XX, hXX⟩ : ∃ XX : Wd, (⟨X.rows, X.tick + 1, nextR (nextR X.seed), H1, H2⟩ : Wd) = XX := ⟨_, rfl⟩
  have hXb : XX.bodies = H2 := by rw [← hXX]
  have HIY := Lib.hid (fun k hk h1 => (HBB.out (hasI_yes (bs := H2) (p := (px, py)) (k := k) hk h1)).trans hXX)
  have HIN := Lib.hid (fun h1 => (HCC.out (hasI_no (bs := H2) (p := (px, py)) h1)).trans (show (⟨X.rows, X.tick + 1, nextR (nextR X.seed), H1, H2 ++ [itemB (px, py)]⟩ : Wd) = { XX with bodies := H2 ++ [itemB (px, py)] } by rw [← hXX]))
  rw [hXX] at hHd
  have HXB := Lib.hid hXb
  clear HBB HCC hXb
  have hI : StI w wd G x xs (.slice (some ⟨gb, 0, none⟩) H2.length cap) XX px py 0 := ⟨hHd, hbd, hRd, fun j hj => absurd hj (Nat.not_lt_zero _)⟩
  have q4 := hHd.blk.c4
  clear hXX hHd hbd hRd hHcl hGa hGlt
  obtain ⟨N, hNe⟩ : ∃ N, H2.length = N := ⟨_, rfl⟩
  rw [hNe] at hI q4 hHle hHmo
  have HNE := Lib.hid hNe
  clear hNe
  go_wp2_with fail
  clear q4 s0 s1 s2 d1 d2
  go_loopw [89] (fun i wr => ∃ k : Nat, k ≤ N ∧ i = .int .i64 k ∧ StI w wr G x xs (.slice (some ⟨gb, 0, none⟩) N cap) XX px py k) (fun i _ => N - (intOf i).toNat)
  case atStart => exact ⟨0, Nat.zero_le _, rfl, hI⟩
  case round =>
    clear hI
    obtain ⟨k, hk, rfl, ⟨hH, hb, hR, hno⟩⟩ := hrel
    have HNX := Lib.hid hno
    clear hno
    by_cases hlt : k < N
    · have hkX : k < XX.bodies.length := by rw [HXB.out, HNE.out]; exact hlt
      have hE := hH.elemAt (k := k) hkX
      have hRg := hE.range
      have HYk := Lib.hid (fun h1 => HIY.out k (by rw [HNE.out]; exact hlt) h1)
      have HNk := Lib.hid (fun (h1 : ¬ ((bAt XX.bodies k).kind = 2 ∧ (bAt XX.bodies k).x = px ∧ (bAt XX.bodies k).y = py)) => show ∀ j, j < k + 1 → ¬ ((bAt XX.bodies j).kind = 2 ∧ (bAt XX.bodies j).x = px ∧ (bAt XX.bodies j).y = py) from fun j hj => by
        by_cases e : j = k
        · subst e; exact h1
        · exact HNX.out j (by omega))
      rw [← HXB.out] at HYk
      clear hE HIY HIN HNX
      obtain ⟨b, hbe⟩ : ∃ b, bAt XX.bodies k = b := ⟨_, rfl⟩
      rw [hbe] at hRg HYk HNk
      clear hbe
      have c1 : (0 : Int) ≤ (k : Int) := by omega
      have c2 : (k : Int) < (N : Int) := by omega
      go_upto_region 19 with (fail)
      apply wp_region_lit
      iterate 3 go_step
      refine load_bod (op := ⟨some 92, _, _, _, _, _⟩) rfl _ rfl gb (k * 9) rfl b hRg ?_
      refine alloc_bod rfl rfl ?_
      have hBk := Blk.new wr 42 zB
      have hk0 : Below wr.heap.size wr (wr.alloc (.cells zB.cells.toArray 42)) := (Below.refl _ _).alloc (Nat.le_refl _) _
      change Blk (wr.alloc (.cells zB.cells.toArray 42)) wr.heap.size zB at hBk
      generalize World.alloc wr _ = w1 at hBk hk0
      refine store_bod (op := ⟨none, _, _, _, _, _⟩) rfl _ _ rfl wr.heap.size 0 rfl b rfl hBk.there ?_
      have hB2 := hBk.setAll b
      have hk1 : Below wr.heap.size wr (w1.setCells wr.heap.size 0 b.cells) := setCells_below hk0 (Nat.le_refl _)
      generalize World.setCells w1 _ _ _ = w2 at hB2 hk1
      have hH2 := hH.below hk1
      have hb2 := hb.trans (hk1.mono hb.size)
      have hR2 := hR.below hk1 hR.lt
      clear hBk hk0 hk1 hH hb hR hRg
      generalize wr.heap.size = bq at *
      have g0 := hB2.c0
      have g2 := hB2.c2
      have g3 := hB2.c3
      by_cases hall : b.kind = 2 ∧ b.x = px ∧ b.y = py
      · have HN := Lib.hid (HYk.out hall)
        obtain ⟨a1, a2, a3⟩ := hall
        have x1 : (b.kind == 2) = true := beq_iff_eq.2 a1
        have x2 : (b.x == px) = true := beq_iff_eq.2 a2
        have x3 : (b.y == py) = true := beq_iff_eq.2 a3
        clear a1 a2 a3 HYk HNk
        obtain ⟨tk, sd, sc, bs, rows, rfl⟩ : ∃ tk sd sc bs rows, XX = ⟨rows, tk, sd, sc, bs⟩ := ⟨_, _, _, _, _, rfl⟩
        go_upto_region 21 with (fail)
        have hOz := hH2.own
        have oz := slice_one hOz.at_.r
        have ozs := slice_one hOz.at_.s
        have ozb := slice_one hOz.at_.b
        apply wp_region_lit
        refine load_wld (op := ⟨some 108, _, _, _, _, _⟩) rfl _ rfl G rfl _ _ _ _ _ hH2.blk.range ?_
        refine store_wld (op := ⟨none, _, _, _, _, _⟩) rfl _ _ rfl (w.heap.size + 1) rfl _ _ _ _ _ rfl hR2.there oz ozs ozb ?_
        have hq := And.intro (hR2.setAll (u' := x) (us' := xs) (ub' := (.slice (some ⟨gb, 0, none⟩) N cap)) (tk' := (⟨rows, tk, sd, sc, bs⟩ : Wd).tick) (sd' := (⟨rows, tk, sd, sc, bs⟩ : Wd).seed)) (setCells_grown w2 (w.heap.size + 1) 0 (wcells x (⟨rows, tk, sd, sc, bs⟩ : Wd).tick (⟨rows, tk, sd, sc, bs⟩ : Wd).seed xs (.slice (some ⟨gb, 0, none⟩) N cap)))
        generalize World.setCells w2 _ _ _ = wn at hq
        obtain ⟨hRn, hgr⟩ := hq
        have hOn := (hOz.tch (S := fun i => i = w.heap.size + 1) (Tch.of_grown1 hgr rfl) (fun i hi e => by have := (hOz.ge i hi).1; omega)).mono (B' := w.heap.size) (by omega)
        have hbn : Below w.heap.size w wn := hb2.grown hgr (by have := hR2.lt; omega) (fun k h => by simp only [Option.some.injEq] at h; omega)
        repeat go_step
        refine bodyPost_ret (res_wld1 rfl rfl hRn.range) rfl ?_
        exact ⟨x, _, _, by rw [HN.out], by rw [HN.out]; exact hOn, hbn⟩
      · have HNN := Lib.hid (HNk.out hall)
        have hcs : (b.kind == 2) = false ∨ ((b.kind == 2) = true ∧ (b.x == px) = false) ∨ ((b.kind == 2) = true ∧ (b.x == px) = true ∧ (b.y == py) = false) := by
          by_cases a1 : b.kind = 2
          · by_cases a2 : b.x = px
            · exact .inr (.inr ⟨by simpa using a1, by simpa using a2, by simpa using fun a3 => hall ⟨a1, a2, a3⟩⟩)
            · exact .inr (.inl ⟨by simpa using a1, by simpa using a2⟩)
          · exact .inl (by simpa using a1)
        clear HYk HNk hall
        rcases hcs with x1 | ⟨x1, x2⟩ | ⟨x1, x2, x3⟩
        all_goals
          go_wp2_with fail
          go_roundw
          case rel => exact ⟨k + 1, by omega, by go_num, ⟨hH2, hb2, hR2, HNN.out⟩⟩
          case measure => simp [intOf]; omega
    · obtain rfl : k = N := by omega
      have HN := Lib.hid (HIN.out (fun j hj => by rw [HNE.out] at hj; have := HNX.out j hj; rwa [HXB.out] at this))
      clear HIN HIY HNX
      have q4 := hH.blk.c4
      go_upto_region 23 with (fail)
      apply wp_region_lit
      iterate 15 go_step
      refine lit_bod (o := ⟨some 115, _, _, _, _, _⟩) rfl _ rfl (itemB (px, py)) ?_ ?_
      · rfl
      have hq := own_lit wr (itemB (px, py))
      have hk6 : Below wr.heap.size wr (wr.alloc (.cells (itemB (px, py)).cells.toArray 42)) := (Below.refl _ _).alloc (Nat.le_refl _) _
      generalize World.alloc wr _ = wy at hq hk6
      have hH6 := hH.below hk6
      have hb6 := hb.trans (hk6.mono hb.size)
      have hR6 := hR.below hk6 hR.lt
      clear hH hb hR hk6 q4
      generalize itemB (px, py) = ib at *
      have hob := hH6.own.b
      rw [HXB.out, HNE.out] at hob
      simp only [Act.put, List.setIfInBounds_toArray, List.set_cons_zero, List.set_cons_succ]
      refine app_bods (o := ⟨some 116, _, _, _, _, _⟩) wy rfl _ _ rfl (w.heap.size + 2) hob rfl hq.at_ rfl (by omega) (by have := hR6.lt; omega) ?_
      intro v5 wz hv hg hvb
      have hHe := hH6.appB hv hg hvb
      have g4 := (hH6.blk.grown hg hH6.n3).c4
      have p4 := (hH6.blk.grown hg hH6.n3).f4
      have ov := slice_one hv.at_
      clear hv hg hvb hq hob
      simp only [Act.put, List.setIfInBounds_toArray, List.set_cons_zero, List.set_cons_succ]
      iterate 3 go_step
      refine store_cell (o := ⟨none, _, _, _, _, _⟩) rfl _ _ _ rfl G 4 rfl v5 rfl ov size_bods g4 p4 ?_
      generalize World.setCell wz _ _ = w7 at hHe
      obtain ⟨hH7, ht⟩ := hHe
      have hk7 : Below (w.heap.size + 2) wy w7 := hH6.tchBelow ht (fun i hi => hi.imp id fun e => .inr (.inr e))
      have hb7 := hb6.trans (hk7.mono (by omega))
      have hR7 := hR6.below hk7 (by omega)
      clear hH6 hb6 hR6 ht hk7 g4 p4 ov
      go_upto_region 24 with (fail)
      have hOz := hH7.own
      have oz := slice_one hOz.at_.r
      have ozs := slice_one hOz.at_.s
      have ozb := slice_one hOz.at_.b
      apply wp_region_lit
      refine load_wld (op := ⟨some 118, _, _, _, _, _⟩) rfl _ rfl G rfl _ _ _ _ _ hH7.blk.range ?_
      refine store_wld (op := ⟨none, _, _, _, _, _⟩) rfl _ _ rfl (w.heap.size + 1) rfl _ _ _ _ _ rfl hR7.there oz ozs ozb ?_
      have hq := And.intro (hR7.setAll (u' := x) (us' := xs) (ub' := v5) (tk' := ({ XX with bodies := H2 ++ [ib] } : Wd).tick) (sd' := ({ XX with bodies := H2 ++ [ib] } : Wd).seed)) (setCells_grown w7 (w.heap.size + 1) 0 (wcells x ({ XX with bodies := H2 ++ [ib] } : Wd).tick ({ XX with bodies := H2 ++ [ib] } : Wd).seed xs v5))
      generalize World.setCells w7 _ _ _ = wn at hq
      obtain ⟨hRn, hgr⟩ := hq
      have hOn := (hOz.tch (S := fun i => i = w.heap.size + 1) (Tch.of_grown1 hgr rfl) (fun i hi e => by have := (hOz.ge i hi).1; omega)).mono (B' := w.heap.size) (by omega)
      have hbn : Below w.heap.size w wn := hb7.grown hgr (by have := hR7.lt; omega) (fun k h => by simp only [Option.some.injEq] at h; omega)
      repeat go_step
      refine bodyPost_ret (res_wld1 rfl rfl hRn.range) rfl ?_
      exact ⟨x, _, _, by rw [HN.out], by rw [HN.out]; exact hOn, hbn⟩
end Go.Proofs.Ytmamihkcikgmcaa
/- The reference's hits, step by step: the marks as one list over all bodies. No program. -/
namespace Go.Proofs.Ytmamihkcikgmcaa

/-- the marks over n players and M others, when the first of the others are told -/
def goneA (n M : Nat) (g : List Bool) : List Bool := List.replicate n false ++ (g ++ List.replicate (M - g.length) false)
theorem goneA_len {n M : Nat} {g : List Bool} (h : g.length ≤ M) : (goneA n M g).length = n + M := by simp [goneA]; omega
theorem goneA_0 (n M : Nat) : goneA n M [] = List.replicate (n + M) false := by simp [goneA]
theorem goneA_no {n M : Nat} {g : List Bool} (h : g.length < M) : goneA n M (g ++ [false]) = goneA n M g := by
  unfold goneA
  rw [List.append_assoc, List.length_append, List.length_singleton]
  obtain ⟨d, hd⟩ : ∃ d, M - g.length = d + 1 := ⟨M - g.length - 1, by omega⟩
  rw [hd, show M - (g.length + 1) = d by omega, List.replicate_succ]
  rfl
theorem goneA_yes {n M : Nat} {g : List Bool} (h : g.length < M) : (goneA n M g).set (n + g.length) true = goneA n M (g ++ [true]) := by
  unfold goneA
  rw [List.set_append_right _ _ (by simp), List.length_replicate, Nat.add_sub_cancel_left, List.set_append_right _ _ (Nat.le_refl _), Nat.sub_self, List.append_assoc, List.length_append, List.length_singleton]
  obtain ⟨d, hd⟩ : ∃ d, M - g.length = d + 1 := ⟨M - g.length - 1, by omega⟩
  rw [hd, show M - (g.length + 1) = d by omega, List.replicate_succ]
  rfl
theorem goneA_end {n M : Nat} {g : List Bool} (h : g.length = M) : goneA n M g = List.replicate n false ++ g := by simp [goneA, h]
theorem repl_set {n i : Nat} {g : List Bool} {b : Bool} : (List.replicate n false ++ g).set (n + i) b = List.replicate n false ++ g.set i b := by
  rw [List.set_append_right _ _ (by simp), List.length_replicate, Nat.add_sub_cancel_left]
/-- the second pass, step by step -/
def i2S (pl : List Bd) (bs : List Bd) (t : List Int × List Bool) (i : Nat) : List Int × List Bool := if it2Hit pl (bAt bs i) = true then (addT t.1 (metT pl (bAt bs i) (-1)), t.2.set i true) else t
def i2F (pl : List Bd) (bs : List Bd) (s : List Int × List Bool) : Nat → List Int × List Bool
  | 0 => s
  | i + 1 => i2S pl bs (i2F pl bs s i) i
theorem i2F_cons (pl : List Bd) (b : Bd) (bs : List Bd) (sc : List Int) (g : Bool) (gs : List Bool) : ∀ i, i2F pl (b :: bs) (sc, g :: gs) (i + 1) =
    if it2Hit pl b = true then ((i2F pl bs (addT sc (metT pl b (-1)), gs) i).1, true :: (i2F pl bs (addT sc (metT pl b (-1)), gs) i).2) else ((i2F pl bs (sc, gs) i).1, g :: (i2F pl bs (sc, gs) i).2)
  | 0 => by
    simp only [i2F, i2S]
    rw [show bAt (b :: bs) 0 = b from rfl]
    by_cases h : it2Hit pl b = true
    · rw [if_pos h, if_pos h]; rfl
    · rw [if_neg h, if_neg h]
  | i + 1 => by
    rw [i2F, i2F_cons pl b bs sc g gs i]
    have hb : bAt (b :: bs) (i + 1) = bAt bs i := by simp [bAt, List.getD]
    by_cases h : it2Hit pl b = true
    · rw [if_pos h, if_pos h]
      simp only [i2S, hb, i2F]
      by_cases h2 : it2Hit pl (bAt bs i) = true
      · rw [if_pos h2, if_pos h2]; rfl
      · rw [if_neg h2, if_neg h2]
    · rw [if_neg h, if_neg h]
      simp only [i2S, hb, i2F]
      by_cases h2 : it2Hit pl (bAt bs i) = true
      · rw [if_pos h2, if_pos h2]; rfl
      · rw [if_neg h2, if_neg h2]
theorem i2F_end (pl : List Bd) : ∀ (bs : List Bd) (gs : List Bool) (sc : List Int), bs.length = gs.length → i2F pl bs (sc, gs) bs.length = it2 pl sc bs gs
  | [], [], _, _ => rfl
  | [], _ :: _, _, h => by simp at h
  | _ :: _, [], _, h => by simp at h
  | b :: bs, g :: gs, sc, h => by
    have h' : bs.length = gs.length := by simpa using h
    rw [List.length_cons, i2F_cons]
    simp only [it2, List.tail_cons, List.headD_cons]
    by_cases hh : it2Hit pl b = true
    · rw [if_pos hh, if_pos hh, i2F_end pl bs gs _ h']
    · rw [if_neg hh, if_neg hh, i2F_end pl bs gs _ h']
theorem i2F_len (pl : List Bd) (bs : List Bd) (s : List Int × List Bool) : ∀ i, (i2F pl bs s i).2.length = s.2.length
  | 0 => rfl
  | i + 1 => by
    simp only [i2F, i2S]
    split
    · simp [i2F_len pl bs s i]
    · exact i2F_len pl bs s i
theorem i2F_scs {n : Nat} {pl : List Bd} (hp : pl.length = n) (bs : List Bd) (s : List Int × List Bool) (h : Scs n s.1) : ∀ i, Scs n (i2F pl bs s i).1
  | 0 => h
  | i + 1 => by
    simp only [i2F, i2S]
    split
    · rename_i hh
      have h2 := it2Hit_iff.1 hh
      have := metT_bd pl (bAt bs i) (-1)
      exact (addT_ok (i2F_scs hp bs s h i) h2.2 (by omega)).1
    · exact i2F_scs hp bs s h i
theorem leftOf_step {bs : List Bd} {gs : List Bool} {i : Nat} (h : i < bs.length) (hl : bs.length = gs.length) : leftOf (bs.take (i + 1)) (gs.take (i + 1)) = leftOf (bs.take i) (gs.take i) ++ (if gs.getD i false = true then [] else [bAt bs i]) := by
  have hg : i < gs.length := by omega
  rw [List.take_add_one, List.take_add_one, List.getElem?_eq_getElem h, List.getElem?_eq_getElem hg, Option.toList_some, Option.toList_some, leftOf_snoc _ _ (by simp; omega)]
  simp [bAt, List.getD, List.getElem?_eq_getElem h, List.getElem?_eq_getElem hg]
theorem leftOf_len : ∀ (bs : List Bd) (gs : List Bool), (leftOf bs gs).length ≤ bs.length
  | [], gs => by simp [leftOf]
  | b :: bs, [] => by simp [leftOf]
  | b :: bs, g :: gs => by
    simp only [leftOf]
    have := leftOf_len bs gs
    split <;> simp <;> omega
/-- the first pass -/
theorem hs_step {s : Hs} {b : Bd} : (b.kind = 1 ∧ 0 ≤ metT s.pl b b.owner → hsStep s b = ⟨hitP s.pl (metT s.pl b b.owner).toNat, hitS s.pl s.sc (metT s.pl b b.owner).toNat b.owner, s.gone ++ [true]⟩) ∧ (¬ (b.kind = 1 ∧ 0 ≤ metT s.pl b b.owner) → hsStep s b = ⟨s.pl, s.sc, s.gone ++ [false]⟩) :=
  ⟨fun h => if_pos (hsHit_iff.2 h), fun h => if_neg (fun e => h (hsHit_iff.1 e))⟩
theorem hs_ok {l : List ByteArray} {n : Nat} {sc0 : List Int} : ∀ (bs : List Bd) (s : Hs), Pls l n s.pl → Scs n s.sc → (∀ b ∈ bs, OtOk l n b) → Pls l n (bs.foldl hsStep s).pl ∧ Scs n (bs.foldl hsStep s).sc
  | [], s, h1, h2, _ => ⟨h1, h2⟩
  | b :: bs, s, h1, h2, hb => by
    have key := shStep_ok (l := l) (n := n) (sc0 := s.sc) (s := ⟨s.pl, s.sc, []⟩) (b := b) ⟨h1, h2, fun _ _ => Int.le_refl _, fun b hb => by simp at hb⟩ (hb b (List.mem_cons_self ..))
    have e : (hsStep s b).pl = (shStep ⟨s.pl, s.sc, []⟩ b).pl ∧ (hsStep s b).sc = (shStep ⟨s.pl, s.sc, []⟩ b).sc := by
      unfold shStep
      by_cases hh : b.kind = 1 ∧ 0 ≤ metT s.pl b b.owner
      · rw [if_pos hh, hs_step.1 hh]; exact ⟨rfl, rfl⟩
      · rw [if_neg hh, hs_step.2 hh]; exact ⟨rfl, rfl⟩
    exact hs_ok (sc0 := sc0) bs _ (by rw [e.1]; exact key.pl) (by rw [e.2]; exact key.sc) fun x hx => hb x (List.mem_cons_of_mem _ hx)
theorem hs_fold {l : List ByteArray} {n N : Nat} {bs : List Bd} {sc : List Int} (hN : bs.length = N) (hn : n ≤ N) (hs : Scs n sc) (hB : Bods l n bs) : ∃ F : Nat → Hs, F 0 = ⟨bs.take n, sc, []⟩ ∧ F (N - n) = hsAll (bs.take n) sc (bs.drop n) ∧
    (∀ k, k < N - n → F (k + 1) = hsStep (F k) (bAt bs (n + k))) ∧ (∀ k, k ≤ N - n → Pls l n (F k).pl ∧ Scs n (F k).sc ∧ (F k).gone.length = k) ∧ ∀ k, k < N - n → OtOk l n (bAt bs (n + k)) := by
  have hR : (bs.drop n).length = N - n := by rw [List.length_drop, hN]
  refine ⟨fun k => hsAll (bs.take n) sc ((bs.drop n).take k), rfl, ?_, fun k hk => ?_, fun k hk => ?_, fun k hk => ?_⟩
  · show hsAll _ _ ((bs.drop n).take (N - n)) = _
    rw [show (bs.drop n).take (N - n) = bs.drop n from List.take_of_length_le (by omega)]
  · show hsAll _ _ ((bs.drop n).take (k + 1)) = _
    rw [hsAll_succ (by omega), List.getElem_drop, bAt_eq (by omega)]
  · have := hs_ok (sc0 := sc) ((bs.drop n).take k) ⟨bs.take n, sc, []⟩ (pls_take hB) hs (fun b hb => hB.ot b (List.mem_of_mem_take hb))
    refine ⟨this.1, this.2, ?_⟩
    show (hsAll _ _ _).gone.length = k
    rw [hsAll_len, List.length_take]; omega
  · have := hB.ot_at (k := n + k) (by omega) (by omega)
    rw [bAt_eq (by omega)]
    exact this
end Go.Proofs.Ytmamihkcikgmcaa
/- The builtin copy over bodies; slices of bools: made, stored into. -/
namespace Go.Proofs.Ytmamihkcikgmcaa
open Go.RowKit
section
variable {P : Program} {ops : Array Oper} {rest : List Oper} {o : Oper} {a : Act} {w : World} {Q : Exit → Act → World → Prop}
theorem run_copy_sz (sz n : Nat) (w : World) (dT sT ty elem : TypeId) (b o dLen dCap : Nat) (a : Addr) (sLen sCap : Nat) (cs : List Value)
    (hu : P.underlying dT = some (.slice elem)) (hs : (P.info? elem).map (·.size) = some sz) (hn : n = Nat.min sLen dLen) (hcl : cs.length = n * sz)
    (hsrc : ∀ j v, cs[j]? = some v → w.cell? (a.add j) = some v) (hc : ∀ j, j < cs.length → (w.cell? ⟨b, o + j, none⟩).isSome = true) (hf : ∀ j, j < cs.length → w.frozen? ⟨b, o + j, none⟩ = false) (h1 : ∀ v ∈ cs, v.oneCell' = true) :
    (Builtin.copy_ #[dT, sT] ty #[.slice (some ⟨b, o, none⟩) dLen dCap, .slice (some a) sLen sCap]).run P w = .ok (goInt n) (w.setCells b o cs) := by
  have hl := run_loadCells_list (P := P) w a cs hsrc
  have hst := run_storeCells_cells (P := P) b o cs 0 w (by simpa using hc) (by simpa using hf) h1
  rw [hcl] at hl
  cases hq : P.info? elem with
  | none => simp [hq] at hs
  | some i =>
    have hi : i.size = sz := by simpa [hq] using hs
    simp [Builtin.copy_, run_underlying hu, Builtin.lenOf, Builtin.firstCells, sizeOf, typeInfo, hq, hi, ← hn, hl, hst]
/-- copy over slices of elements of sz cells, into an own slice as long as the source -/
theorem copy_sz (sz n : Nat) (hgd : o.guard = none) (d s : Operand) (dT sT : TypeId) (ho : o.op = .call { callee := .builtin .copy, args := #[d, s], argTypes := #[dT, sT] }) (elem : TypeId) (hu : P.underlying dT = some (.slice elem)) (hs : (P.info? elem).map (·.size) = some sz)
    (b o' dCap : Nat) (ad : Addr) (sCap : Nat) (hd : a.eval d = .slice (some ⟨b, o', none⟩) n dCap) (hsv : a.eval s = .slice (some ad) n sCap) (cs : List Value) (hcl : cs.length = n * sz)
    (hsrc : ∀ j v, cs[j]? = some v → w.cell? (ad.add j) = some v) (hc : ∀ j, j < cs.length → (w.cell? ⟨b, o' + j, none⟩).isSome = true) (hf : ∀ j, j < cs.length → w.frozen? ⟨b, o' + j, none⟩ = false) (h1 : ∀ v ∈ cs, v.oneCell' = true)
    (h : wpList P ops Q rest (a.put o.dst (goInt n)) (w.setCells b o' cs)) : wpList P ops Q (o :: rest) a w := by
  have hrun := run_copy_sz (P := P) sz n w dT sT o.type elem b o' n dCap ad n sCap cs hu hs (by simp) hcl hsrc hc hf h1
  refine wpList_plain hgd fun K hK => ?_
  unfold Oper.wp
  simp [execOp, ho, resolve, invoke, builtin, hd, hsv, hrun, Result.andThen]
  exact hK _ _ h
end
def bls (l : List Bool) : List Value := l.map Value.bool
theorem bls_len (l : List Bool) : (bls l).length = l.length := by simp [bls]
theorem bls_set (l : List Bool) (k : Nat) (b : Bool) : (bls l).set k (.bool b) = bls (l.set k b) := by simp [bls, List.map_set]
section
variable {ops : Array Oper} {rest : List Oper} {o : Oper} {a : Act} {w : World} {Q : Exit → Act → World → Prop}
theorem info_bl : (Try.prog.info? 4).map (fun i => (i.zero, i.size, i.bytes)) = some (some (.bool false), 1, 1) := by kernel_rfl
theorem make_bools (w : World) (hgd : o.guard = none) (l c : Operand) (ho : o.op = Op.makeSlice 109 l c) (base n : Nat) (hl : a.eval l = .int .i64 (n : Int)) (hc : a.eval c = .int .i64 (n : Int)) (hn : n ≤ 1048576) (hbase : base ≤ w.heap.size)
    (hK : ∀ w', Own w' base 1 (.slice (some ⟨w.heap.size, 0, none⟩) n n) n (bls (List.replicate n false)) → w.grownBy w' none → wpList Try.prog ops Q rest (a.put o.dst (.slice (some ⟨w.heap.size, 0, none⟩) n n)) w') :
    wpList Try.prog ops Q (o :: rest) a w := by
  obtain ⟨i0, hi, hz0, hz1, hz2⟩ := info_parts info_bl
  exact wpList_make_full (P := Try.prog) w hgd l c 109 ho base 4 i0 (.bool false) 1 Try.underlying109 hi hz0 hz1 .i64 .i64 n n n hl hc rfl rfl (by rw [hz2]; omega) (by unfold maxLen; omega) hbase
    (fun w' h1 h2 => hK w' (Own.of_row (by rw [show bls (List.replicate n false) = (madeCells (Value.bool false).cells (n * 1)).toList by rw [Nat.mul_one]; exact (show bls (List.replicate n false) = List.replicate n (Value.bool false) by simp [bls]).trans (toList_madeCells_one _ n).symm]; exact h1)) h2)
theorem size_bl : (Try.prog.info? 4).map (·.size) = some 1 := by kernel_rfl
end
end Go.Proofs.Ytmamihkcikgmcaa
/- l02Hits: the reference's hits. -/
namespace Go.Proofs.Ytmamihkcikgmcaa
open Go.RowKit

theorem hs_fold2 {l : List ByteArray} {n N : Nat} {bs : List Bd} {sc : List Int} (hN : bs.length = N) (hn : n ≤ N) (hs : Scs n sc) (hB : Bods l n bs) : ∃ F : Nat → Hs, F n = ⟨bs.take n, sc, []⟩ ∧ F N = hsAll (bs.take n) sc (bs.drop n) ∧
    (∀ k, n ≤ k → k < N → F (k + 1) = hsStep (F k) (bAt bs k)) ∧ (∀ k, n ≤ k → k ≤ N → Pls l n (F k).pl ∧ Scs n (F k).sc ∧ (F k).gone.length = k - n) ∧ ∀ k, n ≤ k → k < N → OtOk l n (bAt bs k) := by
  obtain ⟨F, h0, h1, h2, h3, h4⟩ := hs_fold hN hn hs hB
  refine ⟨fun k => F (k - n), by show F (n - n) = _; rw [Nat.sub_self]; exact h0, h1, fun k a b => ?_, fun k a b => h3 (k - n) (by omega), fun k a b => ?_⟩
  · show F (k + 1 - n) = _
    have := h2 (k - n) (by omega)
    rw [show n + (k - n) = k by omega, show k - n + 1 = k + 1 - n by omega] at this
    exact this
  · have := h4 (k - n) (by omega)
    rwa [show n + (k - n) = k by omega] at this
theorem bAt_app2 {pl bs : List Bd} {n k : Nat} (hp : pl.length = n) (hk : n ≤ k) : bAt (pl ++ bs.drop n) k = bAt bs k := by
  have := bAt_app (pl := pl) (r := bs.drop n) (n := n) (k := k - n) hp
  rw [show n + (k - n) = k by omega] at this
  rw [this, bAt_dropn, show n + (k - n) = k by omega]
/-- the state of the first loop -/
structure HtI (w wr : World) (B G : Nat) (x xs xb : Value) (X : Wd) (R : List Bd) (kv gv : Value) (n M N : Nat) (pl0 : List Bd) (s : Hs) : Prop where
  hd : Hd wr B G x xs xb { X with scores := s.sc, bodies := s.pl ++ R }
  ok : Own wr w.heap.size 9 kv n (cellsB pl0)
  og : Own wr w.heap.size 1 gv N (bls (goneA n M s.gone))
  bl : Below B w wr
  sz : w.heap.size ≤ wr.heap.size
/-- .. of the second loop: the scores, the marks of the others -/
structure HtJ (w wr : World) (B G : Nat) (x xs xb : Value) (X : Wd) (pl R : List Bd) (kv gv : Value) (n M N : Nat) (pl0 : List Bd) (t : List Int × List Bool) : Prop where
  hd : Hd wr B G x xs xb { X with scores := t.1, bodies := pl ++ R }
  ok : Own wr w.heap.size 9 kv n (cellsB pl0)
  og : Own wr w.heap.size 1 gv N (bls (List.replicate n false ++ t.2))
  bl : Below B w wr
  sz : w.heap.size ≤ wr.heap.size
theorem i2_fold {n N M : Nat} {pl R bs : List Bd} {s : List Int × List Bool} (hN : N = n + M) (hR : bs.drop n = R) (hRl : R.length = M) (hg : s.2.length = M) (hp : pl.length = n) (hs : Scs n s.1) : ∃ T : Nat → List Int × List Bool, T n = s ∧ T N = it2 pl s.1 R s.2 ∧
    (∀ k, n ≤ k → k < N → ((bAt bs k).kind = 2 ∧ 0 ≤ metT pl (bAt bs k) (-1) → T (k + 1) = (addT (T k).1 (metT pl (bAt bs k) (-1)), (T k).2.set (k - n) true)) ∧ (¬ ((bAt bs k).kind = 2 ∧ 0 ≤ metT pl (bAt bs k) (-1)) → T (k + 1) = T k)) ∧ ∀ k, (T k).2.length = M ∧ Scs n (T k).1 := by
  refine ⟨fun k => i2F pl R s (k - n), by show i2F pl R s (n - n) = _; rw [Nat.sub_self]; rfl, ?_, fun k a b => ?_, fun k => ⟨by simp only; rw [i2F_len]; exact hg, i2F_scs hp R s hs _⟩⟩
  · show i2F pl R s (N - n) = _
    rw [← i2F_end pl R s.2 s.1 (by rw [hRl, hg]), hRl, show N - n = M by omega]
  · have e : bAt R (k - n) = bAt bs k := by rw [← hR, bAt_dropn, show n + (k - n) = k by omega]
    have e2 : i2F pl R s (k + 1 - n) = i2S pl R (i2F pl R s (k - n)) (k - n) := by rw [show k + 1 - n = (k - n) + 1 by omega]; rfl
    simp only
    rw [e2]
    unfold i2S
    rw [e]
    exact ⟨fun h => if_pos (it2Hit_iff.2 h), fun h => if_neg fun c => h (it2Hit_iff.1 c)⟩
theorem left_fold {n N M : Nat} {R bs : List Bd} {g : List Bool} (hN : N = n + M) (hR : bs.drop n = R) (hRl : R.length = M) (hg : g.length = M) : ∃ L : Nat → List Bd, L n = [] ∧ L N = leftOf R g ∧ (∀ k, n ≤ k → k < N → L (k + 1) = L k ++ (if g.getD (k - n) false = true then [] else [bAt bs k])) ∧ ∀ k, (L k).length ≤ M := by
  refine ⟨fun k => leftOf (R.take (k - n)) (g.take (k - n)), by show leftOf (R.take (n - n)) _ = _; rw [Nat.sub_self]; rfl, ?_, fun k a b => ?_, fun k => ?_⟩
  · show leftOf (R.take (N - n)) (g.take (N - n)) = _
    rw [List.take_of_length_le (by omega), List.take_of_length_le (by omega)]
  · have e : bAt R (k - n) = bAt bs k := by rw [← hR, bAt_dropn, show n + (k - n) = k by omega]
    show leftOf (R.take (k + 1 - n)) (g.take (k + 1 - n)) = _
    rw [show k + 1 - n = (k - n) + 1 by omega, leftOf_step (by omega) (by omega), e]
  · show (leftOf (R.take (k - n)) (g.take (k - n))).length ≤ M
    have := leftOf_len (R.take (k - n)) (g.take (k - n))
    rw [List.length_take] at this
    omega
theorem Own.refill {w : World} {base sz n cap g : Nat} {cs0 cs : List Value} (h : Own w base sz (.slice (some ⟨g, 0, none⟩) n cap) n cs0) (hl : cs.length = n * sz) :
    Own (w.setCells g 0 cs) base sz (.slice (some ⟨g, 0, none⟩) n cap) n cs ∧ w.grownBy (w.setCells g 0 cs) (some g) := by
  refine ⟨?_, setCells_grown w g _ _⟩
  rcases h.val with ⟨h', _⟩ | ⟨g', cap', h', hbg, hg, hn, hm, hc, ht⟩
  · simp at h'
  · simp only [Value.slice.injEq, Option.some.injEq, Addr.mk.injEq, and_true, true_and] at h'
    obtain ⟨rfl, rfl⟩ := h'
    have hle : n * sz ≤ cap * sz := Nat.mul_le_mul_right _ hn
    have hsome : ∀ j, j < cs.length → (w.cell? ⟨g, 0 + j, none⟩).isSome = true := fun j hj => by rw [Nat.zero_add]; exact (ht _ (by omega)).1
    have hsz : (w.setCells g 0 cs).heap.size = w.heap.size := size_setCells_ g _ _ w
    have hin : ∀ j, j < n * sz → (w.setCells g 0 cs).cell? ⟨g, j, none⟩ = cs[j]? := fun j hj => by
      have := World.cell?_setCells_in g cs 0 w hsome j (by omega)
      rw [Nat.zero_add] at this
      rw [this, List.getElem?_eq_getElem (by omega)]
    refine ⟨hl, .inr ⟨g, cap, rfl, hbg, by rw [hsz]; exact hg, hn, hm, hin, fun j hj => ⟨?_, (World.frozen?_setCells g _ _ _ _).trans (ht j hj).2⟩⟩⟩
    by_cases hi : j < n * sz
    · rw [hin j hi, List.getElem?_eq_getElem (by omega)]; rfl
    · rw [World.cell?_setCells_out g _ _ _ _ (fun _ _ => by show j < 0 ∨ 0 + cs.length ≤ j; omega)]
      exact (ht j hj).1
theorem gone_at {n k : Nat} {g : List Bool} (hk : n ≤ k) (hg : k - n < g.length) : (bls (List.replicate n false ++ g))[k]? = some (.bool (g.getD (k - n) false)) := by
  unfold bls
  rw [List.getElem?_map, List.getElem?_append_right (by simp; omega), List.length_replicate]
  simp [List.getElem?_eq_getElem hg]
/-- .. of the third: the bodies kept -/
structure HtK (w wr : World) (B G : Nat) (x xs xb : Value) (X : Wd) (kv gv : Value) (N : Nat) (l : List Bd) (g : List Bool) : Prop where
  hd : Hd wr B G x xs xb X
  ok : Own wr w.heap.size 9 kv l.length (cellsB l)
  og : Own wr w.heap.size 1 gv N (bls g)
  dj : ∀ i, kv.ownBlock = some i → gv.ownBlock ≠ some i
  bl : Below B w wr
  sz : w.heap.size ≤ wr.heap.size
set_option maxRecDepth 100000 in
set_option maxHeartbeats 16000000 in
theorem hits_spec {x xs xb : Value} {X : Wd} {B G : Nat} (w : World) (h : Hd w B G x xs xb X) (h1 : 1 ≤ X.scores.length) (h4 : X.scores.length ≤ 4) (hB : Bods X.rows X.scores.length X.bodies) (hsc : Scs X.scores.length X.scores) :
    Calls Try.prog 131 #[.pointer (some ⟨G, 0, none⟩)] w fun e w' => e = .returned (.tuple #[]) ∧ (∃ xb', Hd w' B G x xs xb' { X with scores := (hitsT X.scores.length X.scores X.bodies).1, bodies := (hitsT X.scores.length X.scores X.bodies).2 }) ∧ Below B w w' := by
  have hn := hB.le
  have hm := hB.most
  obtain ⟨gb, cap, hxb, hgb⟩ := h.formB (by omega)
  subst hxb
  obtain ⟨gs, scap, hxs, hgs⟩ := h.formS (by omega)
  subst hxs
  have hcap : X.bodies.length ≤ cap ∧ cap ≤ maxLen := by
    rcases h.own.b.val with ⟨e, _⟩ | ⟨g, c, e, _, _, a, b, _⟩
    · simp at e
    · simp only [Value.slice.injEq] at e; omega
  unfold maxLen at hcap
  obtain ⟨hcap1, hcap2⟩ := hcap
  have q3 := h.blk.c3
  have q4 := h.blk.c4
  have HEQ := Lib.hid (hits_eq X.scores.length X.scores X.bodies)
  generalize hN : X.bodies.length = N at *
  generalize hn0 : X.scores.length = n at *
  have HN := Lib.hid hN
  have Hn0 := Lib.hid hn0
  clear hN hn0
  have hR : (X.bodies.drop n).length = N - n := by rw [List.length_drop, HN.out]
  have HR := Lib.hid hR
  clear hR
  have b1 : (0 : Int) ≤ (n : Int) := by omega
  have b2 : (n : Int) ≤ (N : Int) := by omega
  have b3 : (N : Int) ≤ (cap : Int) := by omega
  have b4 : (n : Int) ≤ (cap : Int) := by omega
  have b5 : ¬ cap < n := by omega
  have b6 : ¬ cap = 0 := by omega
  have HMET : ∀ (b : Bd) (but : Int) (st1 : List Int) (pl1 : List Bd) (wx : World), Hd wx B G x (.slice (some ⟨gs, 0, none⟩) n scap) (.slice (some ⟨gb, 0, none⟩) N cap) { X with scores := st1, bodies := pl1 ++ X.bodies.drop n } → Scs n st1 → pl1.length = n → Calls Try.prog 143 #[.pointer (some ⟨G, 0, none⟩), b.val, .int .i64 but] wx fun e w' => e = .returned (.int .i64 (metT pl1 b but)) ∧ Below wx.heap.size wx w' := fun b but st1 pl1 wx hx hs hp => by
    have := met_spec b but wx hx (by show st1.length ≤ (pl1 ++ X.bodies.drop n).length; rw [hs.len, List.length_append, hp]; omega) (by show (pl1 ++ X.bodies.drop n).length ≤ 1000; rw [List.length_append, hp, HR.out]; omega)
    simp only [hs.len, take_app hp] at this
    exact this
  have HADD : ∀ (k : Nat) (st1 : List Int) (bs1 : List Bd) (wx : World), Hd wx B G x (.slice (some ⟨gs, 0, none⟩) n scap) (.slice (some ⟨gb, 0, none⟩) N cap) { X with scores := st1, bodies := bs1 } → Scs n st1 → k < n → Calls Try.prog 144 #[.pointer (some ⟨G, 0, none⟩), .int .i64 (k : Int)] wx fun e w' => e = .returned (.tuple #[]) ∧ Hd w' B G x (.slice (some ⟨gs, 0, none⟩) n scap) (.slice (some ⟨gb, 0, none⟩) N cap) { X with scores := addT st1 k, bodies := bs1 } ∧ Tch (fun i => (Value.slice (some ⟨gs, 0, none⟩) n scap).ownBlock = some i) wx w' := fun k st1 bs1 wx hx hs hk =>
    point_spec k wx hx (by show k < st1.length; rw [hs.len]; exact hk) (hs.at_ hk) (by show st1.length ≤ 1000; rw [hs.len]; omega)
  obtain ⟨F, hF0, hFM, hFS, hFB, hFO⟩ := hs_fold2 (n := n) (N := N) (bs := X.bodies) (sc := X.scores) HN.out hn hsc hB
  have hsz0 : B ≤ w.heap.size := by have := h.ge; have := h.blk.lt; omega
  have hlow := h.lt
  obtain ⟨M, hM⟩ : ∃ M, N - n = M := ⟨_, rfl⟩
  have hNM : N = n + M := by omega
  have HNM := Lib.hid hNM
  rw [hM] at HR
  clear hNM hM
  have HFS := Lib.hid hFS
  have HFB := Lib.hid hFB
  have HFO := Lib.hid hFO
  have HFM := Lib.hid hFM
  have HF0 := Lib.hid hF0
  have HAPP := Lib.hid (fun (pl : List Bd) (k : Nat) (hp : pl.length = n) (hk : n ≤ k) => bAt_app2 (bs := X.bodies) hp hk)
  clear hFS hFB hFO hFM hF0 hB
  go_enter Try.func131, Try.ntmps131
  go_upto_region 1 with (fail)
  clear q3
  apply wp_region_lit
  iterate 3 go_step
  have hk1 : Below w.heap.size w (w.alloc (.cells #[] 42)) := (Below.refl _ _).alloc (Nat.le_refl _) _
  have hE : Own (w.alloc (.cells #[] 42)) w.heap.size 9 (.slice (some ⟨w.heap.size, 0, none⟩) 0 0) 0 (cellsB []) := Own.lit (n := 0) 42 rfl rfl (Nat.le_refl _) (by unfold maxLen; omega)
  generalize World.alloc w _ = w1 at hk1 hE
  have hH1 := h.below hk1
  have q4 := hH1.blk.c4
  iterate 18 go_step
  have hpre := hH1.prefixB (k := n) (by rw [HN.out]; omega)
  refine app_bods (o := ⟨some 23, _, _, _, _, _⟩) w1 rfl _ _ rfl w.heap.size hE rfl hpre.at_ rfl (by omega) hk1.size ?_
  intro kv w2 hkv hg _
  rw [Nat.zero_add, List.nil_append] at hkv
  have hk2 : Below w.heap.size w1 w2 := (Below.refl w.heap.size _).grown hg hk1.size (fun k h => by simp only [Value.ownBlock, Option.some.injEq] at h; omega)
  have hH2 := hH1.tch (Tch.of_grown hg (S := fun i => i = w.heap.size) fun i hi => by simp only [Value.ownBlock, Option.some.injEq] at hi; exact hi.symm) (fun i hi e => by have := (hlow i hi).2; omega)
  have hb2 : Below w.heap.size w w2 := hk1.trans hk2
  clear hk1 hE hH1 hpre hg hk2 q4
  have q4 := hH2.blk.c4
  obtain ⟨ko, kc, rfl⟩ := hkv.slice_
  simp only [Act.put, List.setIfInBounds_toArray, List.set_cons_zero, List.set_cons_succ]
  go_upto_region 2 with (fail)
  apply wp_region_lit
  iterate 15 go_step
  refine make_bools (o := ⟨some 29, _, _, _, _, _⟩) w2 rfl _ _ rfl w2.heap.size N rfl rfl (by omega) (Nat.le_refl _) ?_
  intro w3 hgv hg
  have hk3 : Below w2.heap.size w2 w3 := (Below.refl _ _).grown hg (Nat.le_refl _) (fun k h => by cases h)
  have hH3 := hH2.below hk3
  have hk3' := hkv.belowS hk3
  have hb3 := hb2.trans (hk3.mono hb2.size)
  have hgk : ∀ i, (Value.slice ko n kc).ownBlock = some i → i < w2.heap.size := fun i hi => (hkv.ge i hi).2
  have hgg := hb2.size
  clear hH2 hkv hb2 hg hk3 q4
  generalize w2.heap.size = gg at *
  have hI : HtI w w3 B G x (.slice (some ⟨gs, 0, none⟩) n scap) (.slice (some ⟨gb, 0, none⟩) N cap) X (X.bodies.drop n) (.slice ko n kc) (.slice (some ⟨gg, 0, none⟩) N N) n M N (X.bodies.take n) (F n) := by
    rw [HF0.out]
    refine ⟨?_, hk3', ?_, hb3.mono hsz0, hb3.size⟩
    · simp only [List.take_append_drop]
      exact hH3
    · simp only
      rw [goneA_0, ← HNM.out]
      exact hgv.mono hgg
  have q4 := hH3.blk.c4
  clear hH3 hk3' hb3 hgv h
  simp only [Act.put, List.setIfInBounds_toArray, List.set_cons_zero, List.set_cons_succ]
  go_wp2_with fail
  clear q4
  generalize hRe : X.bodies.drop n = R at *
  have HRE := Lib.hid hRe
  clear hRe
  generalize hpl0 : X.bodies.take n = pl0 at *
  have HPL0 := Lib.hid hpl0
  clear hpl0
  go_loopw [5] (fun v wr => ∃ k : Nat, n ≤ k ∧ k ≤ N ∧ v = .int .i64 k ∧ HtI w wr B G x (.slice (some ⟨gs, 0, none⟩) n scap) (.slice (some ⟨gb, 0, none⟩) N cap) X R (.slice ko n kc) (.slice (some ⟨gg, 0, none⟩) N N) n M N pl0 (F k)) (fun v _ => N - (intOf v).toNat)
  case atStart => exact ⟨n, Nat.le_refl _, hn, rfl, hI⟩
  case round =>
    clear hI
    obtain ⟨k, hnk, hk, rfl, hI⟩ := hrel
    by_cases hlt : k < N
    · have HST := Lib.hid (HFS.out k hnk hlt)
      have hfb := HFB.out k hnk hk
      have hot := HFO.out k hnk hlt
      generalize F k = st at *
      obtain ⟨hH, hO, hGn, hb, hsz⟩ := hI
      obtain ⟨hpls, hscs, hgl⟩ := hfb
      have hpln := hpls.len
      have hkN : k < (st.pl ++ R).length := by rw [List.length_append, hpln, HR.out]; have := HNM.out; omega
      have hE := hH.elemAt (k := k) hkN
      simp only at hE
      have hbe := HAPP.out st.pl k hpln hnk
      rw [hbe] at hE
      have hRg := hE.range
      have HS1 := Lib.hid (hs_step (s := st) (b := bAt X.bodies k)).1
      have HS0 := Lib.hid (hs_step (s := st) (b := bAt X.bodies k)).2
      generalize bAt X.bodies k = b at *
      have hglM : st.gone.length < M := by have := HNM.out; omega
      have hgk2 : n + st.gone.length = k := by omega
      have HGN := Lib.hid (goneA_no (n := n) hglM)
      have HGY := Lib.hid (goneA_yes (n := n) hglM)
      rw [hgk2] at HGY
      clear hE HFS HFB HFO HAPP hkN hbe hgk2
      have c1 : (0 : Int) ≤ (k : Int) := by omega
      have c2 : (k : Int) < (N : Int) := by omega
      have q4 := hH.blk.c4
      go_upto_region 6 with (fail)
      apply wp_region_lit
      iterate 18 go_step
      refine load_bod (op := ⟨some 46, _, _, _, _, _⟩) rfl _ rfl gb (k * 9) rfl b hRg ?_
      refine alloc_bod rfl rfl ?_
      have hBk := Blk.new wr 42 zB
      have hk0 : Below wr.heap.size wr (wr.alloc (.cells zB.cells.toArray 42)) := (Below.refl _ _).alloc (Nat.le_refl _) _
      change Blk (wr.alloc (.cells zB.cells.toArray 42)) wr.heap.size zB at hBk
      generalize World.alloc wr _ = w1 at hBk hk0
      refine store_bod (op := ⟨none, _, _, _, _, _⟩) rfl _ _ rfl wr.heap.size 0 rfl b rfl hBk.there ?_
      have hB2 := hBk.setAll b
      have hk1 : Below wr.heap.size wr (w1.setCells wr.heap.size 0 b.cells) := setCells_below hk0 (Nat.le_refl _)
      generalize World.setCells w1 _ _ _ = w2 at hB2 hk1
      have hH2 := hH.below hk1
      have hO2 := hO.belowS hk1
      have hG2 := hGn.belowS hk1
      have hb2 := hb.trans (hk1.mono (Nat.le_trans hsz0 hsz))
      have hsz2 := Nat.le_trans hsz hk1.size
      have hbq : w.heap.size ≤ wr.heap.size := hsz
      have hgq : gg < wr.heap.size := (hGn.ge gg rfl).2
      clear hBk hk0 hk1 hH hO hGn hb hsz hRg q4
      generalize wr.heap.size = bq at *
      have c0' := hB2.c0
      by_cases hk2 : b.kind = 1
      · have x1 : (b.kind != 1) = false := by simp [hk2]
        replace hk2 := Lib.hid hk2
        have c1' := hB2.c1
        go_upto_region 8 with (fail)
        apply wp_region_lit
        iterate 3 go_step
        refine load_bod (op := ⟨some 51, _, _, _, _, _⟩) rfl _ rfl bq 0 rfl b hB2.range ?_
        iterate 6 go_step
        refine wpList_callC rfl 143 _ _ rfl Try.func143 (by kernel_rfl) (by kernel_rfl) #[.pointer (some ⟨G, 0, none⟩), b.val, .int .i64 b.owner] (by kernel_rfl) (HMET b b.owner st.sc st.pl w2 hH2 hscs hpln) ?_
        rintro e w3 ⟨rfl, hk3⟩
        refine ⟨_, rfl, ?_⟩
        have hH3 := hH2.below hk3
        have hO3 := hO2.belowS hk3
        have hG3 := hG2.belowS hk3
        have hb3 := hb2.trans (hk3.mono (Nat.le_trans hsz0 hsz2))
        have hsz3 := Nat.le_trans hsz2 hk3.size
        have hB3 := hB2.below hk3 hB2.lt
        clear hH2 hO2 hG2 hb2 hsz2 hB2 hk3 c0' c1' HMET
        have hbd := metT_bd st.pl b b.owner
        have hyes := fun hh => metT_yes (pl := st.pl) (b := b) (but := b.owner) hh
        rw [hpln] at hbd hyes
        have HY2 := Lib.hid (fun hh => HS1.out ⟨hk2.out, hh⟩)
        have HN2 := Lib.hid (fun hneg : ¬ 0 ≤ metT st.pl b b.owner => HS0.out (fun e => hneg e.2))
        have hown := hot.owner
        clear HS1 HS0 hk2 x1 hot
        generalize metT st.pl b b.owner = z at *
        simp only [Act.put, List.setIfInBounds_toArray, List.set_cons_zero, List.set_cons_succ]
        by_cases hz0 : 0 ≤ z
        · obtain ⟨p, rfl⟩ : ∃ p : Nat, z = p := ⟨z.toNat, by omega⟩
          have HY3 := Lib.hid (HST.out.trans (HY2.out hz0))
          obtain ⟨hpn, hlf, _⟩ := hyes hz0
          rw [Int.toNat_natCast] at hpn hlf
          have hlf3 := (hpls.pl p hpn).life
          have hpB : p < (st.pl ++ R).length := by rw [List.length_append, hpln]; omega
          have hpl2 : p < st.pl.length := by rw [hpln]; exact hpn
          have hE3 := hH3.elemAt (k := p) hpB
          simp only at hE3
          rw [bAt_append hpl2] at hE3
          obtain ⟨c, hcq⟩ : ∃ c, bAt st.pl p = c := ⟨_, rfl⟩
          rw [hcq] at hE3 hlf hlf3
          have HCQ := Lib.hid hcq
          clear HST HY2 HN2 hcq hyes hbd
          have b7 : (0 : Int) ≤ (p : Int) := by omega
          have b8 : (p : Int) < (N : Int) := by omega
          have HDEAD := Lib.hid (fun o => hit_dead (R := R) (sc := st.sc) (o := o) hpl2 HCQ.out)
          have HLIVE := Lib.hid (fun o => hit_live (R := R) (sc := st.sc) (o := o) hpl2 HCQ.out)
          have hgs1 := hG3.stored k (.bool true) (by rw [Nat.mul_one]; exact hlt)
          rw [bls_set, HGY.out] at hgs1
          have hgc : (w3.cell? ⟨gg, k, none⟩).isSome = true := by
            rw [hG3.cell (j := k) (by rw [Nat.mul_one]; exact hlt), List.getElem?_eq_getElem (by have := hG3.len; omega)]
            rfl
          obtain ⟨gu, hgu⟩ := Option.isSome_iff_exists.1 hgc
          have hgf := hG3.free k (by rw [Nat.mul_one]; exact hlt)
          go_upto_region 10 with (fail)
          apply wp_region_lit
          iterate 9 go_step
          refine store_cell (o := ⟨none, _, _, _, _, _⟩) rfl _ _ _ rfl gg k rfl (.bool true) rfl rfl size_bl hgu hgf ?_
          generalize World.setCell w3 _ _ = w4 at hgs1
          obtain ⟨hG4, hg⟩ := hgs1
          have hH4 := hH3.tch (Tch.of_grown1 hg (S := fun i => i = gg) rfl) (fun i hi e => by have := (hlow i hi).2; omega)
          have hO4 := hO3.kept hg (.inr (fun e => by have := hgk gg e; omega))
          have hb4 := hb3.grown hg (Nat.le_trans hsz0 hsz3) (fun j h => by simp only [Option.some.injEq] at h; omega)
          have hB4 := hB3.grown hg (by simp only [ne_eq, Option.some.injEq]; omega)
          have hsz4 := Nat.le_trans hsz3 hg.size
          clear hG3 hH3 hO3 hb3 hB3 hsz3 hg hgu hgc hgf hE3 q4
          have hE4 := hH4.elemAt (k := p) hpB
          simp only at hE4
          rw [bAt_append hpl2, HCQ.out] at hE4
          have e7 := hE4.c7
          have hf7 := hH4.elemFree hpB (j := 7) (by omega)
          have hq := hH4.elemF (k := p) (j := 7) hpB (by omega) { c with life := c.life - 1 } (.int .i64 (c.life - 1)) (by simp only; rw [bAt_append hpl2, HCQ.out]; rfl)
          have q4 := hH4.blk.c4
          go_upto_region 11 with (fail)
          apply wp_region_lit
          iterate 33 go_step
          refine store_cell (o := ⟨none, _, _, _, _, _⟩) rfl _ _ _ rfl gb (p * 9 + 7) rfl (.int .i64 (c.life - 1)) rfl rfl size_int e7 hf7 ?_
          generalize World.setCell w4 _ _ = w5 at hq
          obtain ⟨hH5, hg⟩ := hq
          have hO5 := hO4.kept hg (.inr (fun e => by have := (hO4.ge _ e).1; omega))
          have hG5 := hG4.kept hg (.inr (fun e => by have := (hG4.ge _ e).1; omega))
          have hB5 := hB4.grown hg (by simp only [ne_eq, Option.some.injEq]; omega)
          have hb5 := hb4.grown hg (Nat.le_trans hsz0 hsz4) (fun j h => by simp only [Option.some.injEq] at h; have := (hlow gb (.inr (.inr (.inr rfl)))).1; omega)
          have hsz5 := Nat.le_trans hsz4 hg.size
          clear hH4 hO4 hG4 hB4 hb4 hsz4 hg e7 hf7 hE4 q4
          simp only at hH5
          have hp5 : p < ((st.pl ++ R).set p { c with life := c.life - 1 }).length := by rw [List.length_set]; exact hpB
          have hE5 := hH5.elemAt (k := p) hp5
          simp only at hE5
          rw [bAt_set_self hpB] at hE5
          have e7 := hE5.c7
          simp only at e7
          have q4 := hH5.blk.c4
          by_cases hl1 : c.life - 1 = 0
          · obtain ⟨q, hq⟩ : ∃ q : Nat, b.owner = q := ⟨b.owner.toNat, by omega⟩
            obtain ⟨hd1, hd2⟩ := HDEAD.out b.owner hl1
            have HD1 := Lib.hid hd1
            have HD2 := Lib.hid hd2
            have HL1 := Lib.hid hl1
            have x2 : (c.life - 1 == 0) = true := by simp; omega
            have hAo := HADD q st.sc _ w5 hH5 hscs (by omega)
            rw [← hq] at hAo
            replace hq := Lib.hid hq
            have c1' := hB5.c1
            clear HDEAD HLIVE hl1 hd1 hd2
            go_upto_region 13 with (fail)
            apply wp_region_lit
            iterate 9 go_step
            refine wpList_callC rfl 144 _ _ rfl Try.func144 (by kernel_rfl) (by kernel_rfl) #[.pointer (some ⟨G, 0, none⟩), .int .i64 b.owner] (by kernel_rfl) hAo ?_
            rintro e w6 ⟨rfl, hH6, ht⟩
            refine ⟨_, rfl, ?_⟩
            have hO6 := hO5.tch ht (fun i hi e => by have := (hO5.ge i hi).1; have := hlow i (.inr (.inr (.inl e))); omega)
            have hG6 := hG5.tch ht (fun i hi e => by have := (hG5.ge i hi).1; have := hlow i (.inr (.inr (.inl e))); omega)
            have hb6 := hb5.trans (ht.below (Nat.le_trans hsz0 hsz5) fun i hi => (hlow i (.inr (.inr (.inl hi)))).1)
            have hsz6 := Nat.le_trans hsz5 ht.size
            clear hH5 hO5 hG5 hb5 hsz5 ht hAo c1' hB5 e7 hE5 HADD q4
            simp only [Act.put, List.setIfInBounds_toArray, List.set_cons_zero, List.set_cons_succ]
            have hp6 : p < ((st.pl ++ R).set p { c with life := c.life - 1 }).length := by simp only [List.length_set]; exact hpB
            have hE6 := hH6.elemAt (k := p) hp6
            simp only at hE6
            rw [bAt_set_self (by first | exact hpB | (simp only [List.length_set]; exact hpB))] at hE6
            have ef := hE6.c4
            have hff := hH6.elemFree hp6 (j := 4) (by omega)
            have q4 := hH6.blk.c4
            have hq := hH6.elemF (k := p) (j := 4) hp6 (by omega) { c with life := c.life - 1, vx := 0 } (.int .i64 0) (by simp only; rw [bAt_set_self (by first | exact hpB | (simp only [List.length_set]; exact hpB))]; rfl)
            go_upto_region 14 with (fail)
            apply wp_region_lit
            iterate 21 go_step
            refine store_cell (o := ⟨none, _, _, _, _, _⟩) rfl _ _ _ rfl gb (p * 9 + 4) rfl (.int .i64 0) rfl rfl size_int ef hff ?_
            generalize World.setCell w6 _ _ = w7 at hq
            obtain ⟨hH7, hg⟩ := hq
            have hO7 := hO6.kept hg (.inr (fun e => by have := (hO6.ge _ e).1; omega))
            have hG7 := hG6.kept hg (.inr (fun e => by have := (hG6.ge _ e).1; omega))
            have hb7 := hb6.grown hg (Nat.le_trans hsz0 hsz6) (fun j h => by simp only [Option.some.injEq] at h; have := (hlow gb (.inr (.inr (.inr rfl)))).1; omega)
            have hsz7 := Nat.le_trans hsz6 hg.size
            clear hH6 hO6 hG6 hb6 hsz6 hg ef hff hE6 q4
            simp only at hH7
            have hp7 : p < (((st.pl ++ R).set p { c with life := c.life - 1 }).set p { c with life := c.life - 1, vx := 0 }).length := by simp only [List.length_set]; exact hpB
            have hE7 := hH7.elemAt (k := p) hp7
            simp only at hE7
            rw [bAt_set_self (by first | exact hpB | (simp only [List.length_set]; exact hpB))] at hE7
            have ef := hE7.c5
            have hff := hH7.elemFree hp7 (j := 5) (by omega)
            have q4 := hH7.blk.c4
            have hq := hH7.elemF (k := p) (j := 5) hp7 (by omega) { c with life := c.life - 1, vx := 0, vy := 0 } (.int .i64 0) (by simp only; rw [bAt_set_self (by first | exact hpB | (simp only [List.length_set]; exact hpB))]; rfl)
            go_upto_region 15 with (fail)
            apply wp_region_lit
            iterate 21 go_step
            refine store_cell (o := ⟨none, _, _, _, _, _⟩) rfl _ _ _ rfl gb (p * 9 + 5) rfl (.int .i64 0) rfl rfl size_int ef hff ?_
            generalize World.setCell w7 _ _ = w8 at hq
            obtain ⟨hH8, hg⟩ := hq
            have hO8 := hO7.kept hg (.inr (fun e => by have := (hO7.ge _ e).1; omega))
            have hG8 := hG7.kept hg (.inr (fun e => by have := (hG7.ge _ e).1; omega))
            have hb8 := hb7.grown hg (Nat.le_trans hsz0 hsz7) (fun j h => by simp only [Option.some.injEq] at h; have := (hlow gb (.inr (.inr (.inr rfl)))).1; omega)
            have hsz8 := Nat.le_trans hsz7 hg.size
            clear hH7 hO7 hG7 hb7 hsz7 hg ef hff hE7 q4
            simp only at hH8
            have hp8 : p < ((((st.pl ++ R).set p { c with life := c.life - 1 }).set p { c with life := c.life - 1, vx := 0 }).set p { c with life := c.life - 1, vx := 0, vy := 0 }).length := by simp only [List.length_set]; exact hpB
            have hE8 := hH8.elemAt (k := p) hp8
            simp only at hE8
            rw [bAt_set_self (by first | exact hpB | (simp only [List.length_set]; exact hpB))] at hE8
            have ef := hE8.c8
            have hff := hH8.elemFree hp8 (j := 8) (by omega)
            have q4 := hH8.blk.c4
            have hq := hH8.elemF (k := p) (j := 8) hp8 (by omega) { c with life := c.life - 1, vx := 0, vy := 0, timer := 20 } (.int .i64 20) (by simp only; rw [bAt_set_self (by first | exact hpB | (simp only [List.length_set]; exact hpB))]; rfl)
            go_upto_region 16 with (fail)
            apply wp_region_lit
            iterate 21 go_step
            refine store_cell (o := ⟨none, _, _, _, _, _⟩) rfl _ _ _ rfl gb (p * 9 + 8) rfl (.int .i64 20) rfl rfl size_int ef hff ?_
            generalize World.setCell w8 _ _ = w9 at hq
            obtain ⟨hH9, hg⟩ := hq
            have hO9 := hO8.kept hg (.inr (fun e => by have := (hO8.ge _ e).1; omega))
            have hG9 := hG8.kept hg (.inr (fun e => by have := (hG8.ge _ e).1; omega))
            have hb9 := hb8.grown hg (Nat.le_trans hsz0 hsz8) (fun j h => by simp only [Option.some.injEq] at h; have := (hlow gb (.inr (.inr (.inr rfl)))).1; omega)
            have hsz9 := Nat.le_trans hsz8 hg.size
            clear hH8 hO8 hG8 hb8 hsz8 hg ef hff hE8 q4
            simp only at hH9
            go_wp2_with fail
            go_roundw
            case rel =>
              refine ⟨k + 1, by omega, by omega, by go_num, ?_⟩
              rw [HY3.out, Int.toNat_natCast]
              refine ⟨?_, hO9, hG9, hb9, hsz9⟩
              simp only
              rw [HD1.out, HD2.out]
              exact hH9
            case measure => simp [intOf]; omega
          · obtain ⟨hd1, hd2⟩ := HLIVE.out b.owner hl1
            have HD1 := Lib.hid hd1
            have HD2 := Lib.hid hd2
            have x2 : (c.life - 1 == 0) = false := by simp; omega
            clear HDEAD HLIVE hl1 hd1 hd2 HADD
            go_wp2_with fail
            go_roundw
            case rel =>
              refine ⟨k + 1, by omega, by omega, by go_num, ?_⟩
              rw [HY3.out, Int.toNat_natCast]
              refine ⟨?_, hO5, hG5, hb5, hsz5⟩
              simp only
              rw [HD1.out, HD2.out]
              exact hH5
            case measure => simp [intOf]; omega
        · have HN3 := Lib.hid (HST.out.trans (HN2.out hz0))
          have x5 : decide (z < 0) = true := decide_eq_true (by omega)
          clear HST HY2 HN2 hyes
          go_wp2_with fail
          go_roundw
          case rel => exact ⟨k + 1, by omega, by omega, by go_num, by rw [HN3.out]; exact ⟨hH3, hO3, by simp only; rw [HGN.out]; exact hG3, hb3, hsz3⟩⟩
          case measure => simp [intOf]; omega
      · have HN3 := Lib.hid (HST.out.trans (HS0.out (fun e => hk2 e.1)))
        have x1 : (b.kind != 1) = true := by simp [hk2]
        clear HST HS1 HS0
        go_wp2_with fail
        go_roundw
        case rel => exact ⟨k + 1, by omega, by omega, by go_num, by rw [HN3.out]; exact ⟨hH2, hO2, by simp only; rw [HGN.out]; exact hG2, hb2, hsz2⟩⟩
        case measure => simp [intOf]; omega
    · obtain rfl : N = k := by omega
      have hfb := HFB.out N hn (Nat.le_refl _)
      rw [HFM.out] at hI hfb
      clear HFM HFB HFS HFO HF0
      generalize hsAll pl0 X.scores R = st at *
      obtain ⟨hH, hO, hGn, hb, hsz⟩ := hI
      obtain ⟨hpls, hscs, hgl⟩ := hfb
      have hpln := hpls.len
      have hgM : st.gone.length = M := by have := HNM.out; omega
      rw [goneA_end hgM] at hGn
      obtain ⟨T, hT0, hTM, hTS, hTB⟩ := i2_fold (n := n) (N := N) (M := M) (pl := st.pl) (R := R) (bs := X.bodies) (s := (st.sc, st.gone)) HNM.out HRE.out HR.out hgM hpln hscs
      have hJ : HtJ w wr B G x (.slice (some ⟨gs, 0, none⟩) n scap) (.slice (some ⟨gb, 0, none⟩) N cap) X st.pl R (.slice ko n kc) (.slice (some ⟨gg, 0, none⟩) N N) n M N pl0 (T n) := by
        rw [hT0]; exact ⟨hH, hO, hGn, hb, hsz⟩
      have q4 := hH.blk.c4
      have HEQ3 := Lib.hid (HEQ.out.trans (by rw [← hTM]))
      replace hTS := Lib.hid hTS
      clear hH hO hGn hb hsz HEQ hT0 hTM hgl hgM
      go_wp2_with fail
      clear q4
      go_loopw [8] (fun v wr => ∃ k : Nat, n ≤ k ∧ k ≤ N ∧ v = .int .i64 k ∧ HtJ w wr B G x (.slice (some ⟨gs, 0, none⟩) n scap) (.slice (some ⟨gb, 0, none⟩) N cap) X st.pl R (.slice ko n kc) (.slice (some ⟨gg, 0, none⟩) N N) n M N pl0 (T k)) (fun v _ => N - (intOf v).toNat)
      case atStart => exact ⟨n, Nat.le_refl _, hn, rfl, hJ⟩
      case round =>
        clear hJ
        obtain ⟨k, hnk, hk, rfl, hJ⟩ := hrel
        have htb := hTB k
        by_cases hlt : k < N
        · have HT := Lib.hid (hTS.out k hnk hlt)
          generalize T k = t at *
          obtain ⟨hH, hO, hGn, hb, hsz⟩ := hJ
          obtain ⟨htl, htsc⟩ := htb
          have hkN : k < (st.pl ++ R).length := by rw [List.length_append, hpln, HR.out]; have := HNM.out; omega
          have hE := hH.elemAt (k := k) hkN
          simp only at hE
          have hbe := HAPP.out st.pl k hpln hnk
          rw [hbe] at hE
          have HY := Lib.hid (fun h => (HT.out.1 h))
          have HNo := Lib.hid (fun h => (HT.out.2 h))
          generalize bAt X.bodies k = b at *
          clear HT hTS hTB HAPP hbe
          have c1 : (0 : Int) ≤ (k : Int) := by omega
          have c2 : (k : Int) < (N : Int) := by omega
          have q4 := hH.blk.c4
          have c0' := hE.c0
          have hErg := hE.range
          by_cases hk2 : b.kind = 2
          · have x1 : (b.kind != 2) = false := by simp [hk2]
            replace hk2 := Lib.hid hk2
            go_upto_region 21 with (fail)
            apply wp_region_lit
            iterate 21 go_step
            refine load_bod (op := ⟨some 131, _, _, _, _, _⟩) rfl _ rfl gb (k * 9) rfl b hErg ?_
            refine wpList_callC rfl 143 _ _ rfl Try.func143 (by kernel_rfl) (by kernel_rfl) #[.pointer (some ⟨G, 0, none⟩), b.val, .int .i64 (-1)] (by kernel_rfl) (HMET b (-1) t.1 st.pl wr hH htsc hpln) ?_
            rintro e w3 ⟨rfl, hk3⟩
            refine ⟨_, rfl, ?_⟩
            have hH3 := hH.below hk3
            have hO3 := hO.belowS hk3
            have hG3 := hGn.belowS hk3
            have hb3 := hb.trans (hk3.mono (Nat.le_trans hsz0 hsz))
            have hsz3 := Nat.le_trans hsz hk3.size
            clear hH hO hGn hb hsz hk3 hE hErg c0' HMET q4
            have hbd := metT_bd st.pl b (-1)
            have HY2 := Lib.hid (fun hh => HY.out ⟨hk2.out, hh⟩)
            have HN2 := Lib.hid (fun hneg : ¬ 0 ≤ metT st.pl b (-1) => HNo.out (fun e => hneg e.2))
            clear HY HNo hk2 x1
            generalize metT st.pl b (-1) = z at *
            simp only [Act.put, List.setIfInBounds_toArray, List.set_cons_zero, List.set_cons_succ]
            by_cases hz0 : 0 ≤ z
            · obtain ⟨p, rfl⟩ : ∃ p : Nat, z = p := ⟨z.toNat, by omega⟩
              have HY3 := Lib.hid (HY2.out hz0)
              clear HY2 HN2
              have hgs1 := hG3.stored k (.bool true) (by rw [Nat.mul_one]; exact hlt)
              have hrs : (List.replicate n false ++ t.2).set k true = List.replicate n false ++ t.2.set (k - n) true := by
                obtain ⟨i, hi⟩ : ∃ i, k = n + i := ⟨k - n, by omega⟩
                rw [hi, repl_set, Nat.add_sub_cancel_left]
              rw [bls_set, hrs] at hgs1
              have hgc : (w3.cell? ⟨gg, k, none⟩).isSome = true := by
                rw [hG3.cell (j := k) (by rw [Nat.mul_one]; exact hlt), List.getElem?_eq_getElem (by have := hG3.len; omega)]
                rfl
              obtain ⟨gu, hgu⟩ := Option.isSome_iff_exists.1 hgc
              have hgf := hG3.free k (by rw [Nat.mul_one]; exact hlt)
              go_upto_region 23 with (fail)
              apply wp_region_lit
              iterate 9 go_step
              refine store_cell (o := ⟨none, _, _, _, _, _⟩) rfl _ _ _ rfl gg k rfl (.bool true) rfl rfl size_bl hgu hgf ?_
              generalize World.setCell w3 _ _ = w4 at hgs1
              obtain ⟨hG4, hg⟩ := hgs1
              have hH4 := hH3.tch (Tch.of_grown1 hg (S := fun i => i = gg) rfl) (fun i hi e => by have := (hlow i hi).2; omega)
              have hO4 := hO3.kept hg (.inr (fun e => by have := hgk gg e; omega))
              have hb4 := hb3.grown hg (Nat.le_trans hsz0 hsz3) (fun j h => by simp only [Option.some.injEq] at h; omega)
              have hsz4 := Nat.le_trans hsz3 hg.size
              clear hG3 hH3 hO3 hb3 hsz3 hg hgu hgc hgf hrs
              have hAo := HADD p t.1 _ w4 hH4 htsc (by omega)
              go_upto_region 24 with (fail)
              apply wp_region_lit
              iterate 6 go_step
              refine wpList_callC rfl 144 _ _ rfl Try.func144 (by kernel_rfl) (by kernel_rfl) #[.pointer (some ⟨G, 0, none⟩), .int .i64 (p : Int)] (by kernel_rfl) hAo ?_
              rintro e w6 ⟨rfl, hH6, ht⟩
              refine ⟨_, rfl, ?_⟩
              have hO6 := hO4.tch ht (fun i hi e => by have := (hO4.ge i hi).1; have := hlow i (.inr (.inr (.inl e))); omega)
              have hG6 := hG4.tch ht (fun i hi e => by have := (hG4.ge i hi).1; have := hlow i (.inr (.inr (.inl e))); omega)
              have hb6 := hb4.trans (ht.below (Nat.le_trans hsz0 hsz4) fun i hi => (hlow i (.inr (.inr (.inl hi)))).1)
              have hsz6 := Nat.le_trans hsz4 ht.size
              clear hH4 hO4 hG4 hb4 hsz4 ht hAo HADD
              simp only [Act.put, List.setIfInBounds_toArray, List.set_cons_zero, List.set_cons_succ]
              go_wp2_with fail
              go_roundw
              case rel => exact ⟨k + 1, by omega, by omega, by go_num, by rw [HY3.out]; exact ⟨hH6, hO6, hG6, hb6, hsz6⟩⟩
              case measure => simp [intOf]; omega
            · have HN3 := Lib.hid (HN2.out hz0)
              have x5 : decide (z ≥ 0) = false := decide_eq_false (by omega)
              clear HY2 HN2
              go_wp2_with fail
              go_roundw
              case rel => exact ⟨k + 1, by omega, by omega, by go_num, by rw [HN3.out]; exact ⟨hH3, hO3, hG3, hb3, hsz3⟩⟩
              case measure => simp [intOf]; omega
          · have HN3 := Lib.hid (HNo.out (fun e => hk2 e.1))
            have x1 : (b.kind != 2) = true := by simp [hk2]
            clear HY HNo hErg hE
            go_wp2_with fail
            go_roundw
            case rel => exact ⟨k + 1, by omega, by omega, by go_num, by rw [HN3.out]; exact ⟨hH, hO, hGn, hb, hsz⟩⟩
            case measure => simp [intOf]; omega
        · obtain rfl : N = k := by omega
          obtain ⟨hH, hO, hGn, hb, hsz⟩ := hJ
          obtain ⟨htl, htsc⟩ := htb
          clear hTS hTB HMET HADD
          generalize T N = t at *
          obtain ⟨L, hL0, hLM, hLS, hLB⟩ := left_fold (n := n) (N := N) (M := M) (R := R) (bs := X.bodies) (g := t.2) HNM.out HRE.out HR.out htl
          have HEQ4 := Lib.hid (HEQ3.out.trans (by rw [← hLM]))
          clear hLM HEQ3
          obtain ⟨kb, rfl⟩ : ∃ kb, ko = some ⟨kb, 0, none⟩ := by
            rcases hO.val with ⟨e, h0⟩ | ⟨g, c, e, _⟩
            · simp at e; omega
            · simp only [Value.slice.injEq] at e
              exact ⟨g, e.1⟩
          have hkb := hgk kb rfl
          have hkb2 := (hO.ge kb rfl).1
          have hNn : (st.pl ++ R).length = N := by rw [List.length_append, hpln, HR.out]; exact HNM.out.symm
          have hpre := hH.prefixB (k := n) (by show n ≤ (st.pl ++ R).length; rw [hNn]; exact hn)
          simp only [take_app hpln] at hpre
          have hcl : (cellsB st.pl).length = n * 9 := by rw [cellsB_len, hpln]
          have hrf := hO.refill hcl
          have q4 := hH.blk.c4
          go_upto_region 25 with (fail)
          apply wp_region_lit
          iterate 21 go_step
          refine copy_sz (o := ⟨some 148, _, _, _, _, _⟩) 9 n rfl _ _ _ _ rfl 42 Try.underlying34 (by obtain ⟨i0, hi, hz0, hz1, hz2⟩ := bod_parts; rw [hi]; exact congrArg some hz1) kb 0 kc ⟨gb, 0, none⟩ cap rfl rfl (cellsB st.pl) hcl
            (fun j v hv => ?_) (fun j hj => ?_) (fun j hj => ?_) (cellsB_one _) ?_
          · have hj : j < n * 9 := by rw [← hcl]; exact (List.getElem?_eq_some_iff.1 hv).1
            rw [Addr.add_lit, Nat.zero_add, hpre.cell hj, hv]
          · rw [Nat.zero_add, hO.cell (j := j) (by omega), List.getElem?_eq_getElem (by have := hO.len; omega)]; rfl
          · rw [Nat.zero_add]; exact hO.free j (by omega)
          generalize World.setCells wr _ _ _ = w5 at hrf
          obtain ⟨hO5, hg⟩ := hrf
          have hH5 := hH.tch (Tch.of_grown1 hg (S := fun i => i = kb) rfl) (fun i hi e => by have := (hlow i hi).2; omega)
          have hG5 := hGn.kept hg (.inr (fun e => by simp only [Value.ownBlock, Option.some.injEq] at e; omega))
          have hb5 := hb.grown hg (Nat.le_trans hsz0 hsz) (fun j h => by simp only [Option.some.injEq] at h; omega)
          have hsz5 := Nat.le_trans hsz hg.size
          have hK : HtK w w5 B G x (.slice (some ⟨gs, 0, none⟩) n scap) (.slice (some ⟨gb, 0, none⟩) N cap) { X with scores := t.1, bodies := st.pl ++ R } (.slice (some ⟨kb, 0, none⟩) n kc) (.slice (some ⟨gg, 0, none⟩) N N) N (st.pl ++ L n) (List.replicate n false ++ t.2) := by
            rw [hL0, List.append_nil]
            exact ⟨hH5, by rw [hpln]; exact hO5, hG5, fun i hi e => by simp only [Value.ownBlock, Option.some.injEq] at hi e; omega, hb5, hsz5⟩
          clear hH hO hGn hb hsz hpre hg hL0 q4 hO5 hG5 hb5 hsz5 hcl
          have q4 := hH5.blk.c4
          clear hH5
          simp only [Act.put, List.setIfInBounds_toArray, List.set_cons_zero, List.set_cons_succ]
          go_wp2_with fail
          clear q4
          go_loopw [3, 10] (fun v i wr => ∃ k : Nat, n ≤ k ∧ k ≤ N ∧ i = .int .i64 k ∧ HtK w wr B G x (.slice (some ⟨gs, 0, none⟩) n scap) (.slice (some ⟨gb, 0, none⟩) N cap) { X with scores := t.1, bodies := st.pl ++ R } v (.slice (some ⟨gg, 0, none⟩) N N) N (st.pl ++ L k) (List.replicate n false ++ t.2)) (fun _ i _ => N - (intOf i).toNat)
          case atStart => exact ⟨n, Nat.le_refl _, hn, rfl, hK⟩
          case round =>
            clear hK
            obtain ⟨k, hnk, hk, rfl, hK⟩ := hrel
            have hlb := hLB k
            by_cases hlt : k < N
            · have HS := Lib.hid (hLS k hnk hlt)
              generalize L k = l at *
              obtain ⟨hH, hO, hGn, hdj, hb, hsz⟩ := hK
              have hbe := HAPP.out st.pl k hpln hnk
              have hkN : k < (st.pl ++ R).length := by rw [hNn]; exact hlt
              have hE := hH.elemAt (k := k) hkN
              simp only at hE
              rw [hbe] at hE
              have hEr := hE.range
              generalize bAt X.bodies k = b at *
              have hgd : wr.cell? ⟨gg, k, none⟩ = some (.bool (t.2.getD (k - n) false)) := by
                rw [hGn.cell (j := k) (by rw [Nat.mul_one]; exact hlt)]
                exact gone_at hnk (by have := HNM.out; omega)
              generalize t.2.getD (k - n) false = mk at *
              have hll : (st.pl ++ l).length ≤ N := by rw [List.length_append, hpln]; have := HNM.out; omega
              clear hLS hLB HAPP hbe hkN hE
              have c1 : (0 : Int) ≤ (k : Int) := by omega
              have c2 : (k : Int) < (N : Int) := by omega
              have q4 := hH.blk.c4
              cases mk with
              | true =>
                have HN3 := Lib.hid (HS.out.trans (List.append_nil l))
                clear HS hEr
                go_wp2_with fail
                go_roundw
                case rel => exact ⟨k + 1, by omega, by omega, by go_num, by rw [HN3.out]; exact ⟨hH, hO, hGn, hdj, hb, hsz⟩⟩
                case measure => simp [intOf]; omega
              | false =>
                have HN3 := Lib.hid (show L (k + 1) = l ++ [b] from HS.out)
                clear HS
                obtain ⟨lo, lc, rfl⟩ := hO.slice_
                go_upto_region 30 with (fail)
                apply wp_region_lit
                iterate 21 go_step
                refine load_bod (op := ⟨some 171, _, _, _, _, _⟩) rfl _ rfl gb (k * 9) rfl b hEr ?_
                refine lit_bod (o := ⟨some 172, _, _, _, _, _⟩) rfl _ rfl b rfl ?_
                have hq := own_lit wr b
                have hk4 : Below wr.heap.size wr (wr.alloc (.cells b.cells.toArray 42)) := (Below.refl _ _).alloc (Nat.le_refl _) _
                generalize World.alloc wr _ = w4 at hq hk4
                have hH4 := hH.below hk4
                have hO4 := hO.belowS hk4
                have hG4 := hGn.belowS hk4
                have hb4 := hb.trans (hk4.mono (Nat.le_trans hsz0 hsz))
                have hsz4 := Nat.le_trans hsz hk4.size
                have hggl := (hG4.ge gg rfl).2
                clear hH hO hGn hb hsz hk4 hEr q4
                refine app_bods (o := ⟨some 173, _, _, _, _, _⟩) w4 rfl _ _ rfl w.heap.size hO4 rfl hq.at_ rfl (by omega) hsz4 ?_
                intro v5 w5 hv hg hvb
                have hO5 : Own w5 w.heap.size 9 v5 (st.pl ++ (l ++ [b])).length (cellsB (st.pl ++ (l ++ [b]))) := by rw [← List.append_assoc, List.length_append]; exact hv
                have hH5 := hH4.tch (Tch.of_grown hg fun i hi => (show (fun i => w.heap.size ≤ i) i from (hO4.ge i hi).1)) (fun i hi e => by have := (hlow i hi).2; have e' : w.heap.size ≤ i := e; omega)
                have hG5 := hG4.kept hg (.inr (fun e => hdj gg e.symm rfl))
                have hdj5 : ∀ i, v5.ownBlock = some i → (Value.slice (some ⟨gg, 0, none⟩) N N).ownBlock ≠ some i := fun i hi => by
                  rcases hvb with e | ⟨g, e, hge⟩
                  · exact hdj i (e ▸ hi)
                  · intro e2
                    rw [e] at hi
                    simp only [Value.ownBlock, Option.some.injEq] at hi e2
                    omega
                have hb5 := hb4.grown hg (by omega) (fun j h => by have := (hO4.ge j h).1; omega)
                have hsz5 := Nat.le_trans hsz4 hg.size
                clear hv hg hvb hH4 hO4 hG4 hb4 hsz4 hq hdj
                have q4 := hH5.blk.c4
                simp only [Act.put, List.setIfInBounds_toArray, List.set_cons_zero, List.set_cons_succ]
                go_wp2_with fail
                go_roundw
                case rel => exact ⟨k + 1, by omega, by omega, by go_num, by rw [HN3.out]; exact ⟨hH5, hO5, hG5, hdj5, hb5, hsz5⟩⟩
                case measure => simp [intOf]; omega
            · obtain rfl : N = k := by omega
              obtain ⟨hH, hO, _, _, hb, hsz⟩ := hK
              have hq := hH.putB (hO.mono hsz0) (fun e => by have := (hO.ge _ e).1; have := (hlow G (.inl rfl)).2; omega) (dj_ge fun i j hi hj e => by have := (hO.ge j hj).1; have := (hlow i (.inr (.inl hi))).2; omega) (dj_ge fun i j hi hj e => by have := (hO.ge j hj).1; have := (hlow i (.inr (.inr (.inl hi)))).2; omega)
              have q4 := hH.blk.c4
              have p4 := hH.blk.f4
              obtain ⟨lo, lc, rfl⟩ := hO.slice_
              clear hLS hLB HAPP
              go_upto_region 31 with (fail)
              apply wp_region_lit
              iterate 12 go_step
              refine store_cell (o := ⟨none, _, _, _, _, _⟩) rfl _ _ _ rfl G 4 rfl (.slice lo (st.pl ++ L N).length lc) rfl rfl size_bods q4 p4 ?_
              generalize World.setCell wr _ _ = w6 at hq
              obtain ⟨hH6, hg⟩ := hq
              have hb6 := hb.grown hg (Nat.le_trans hsz0 hsz) (fun j h => by simp only [Option.some.injEq] at h; have := (hlow G (.inl rfl)).1; omega)
              clear hH hO hb q4 p4 hg
              go_wp2_with fail
              exact Great.bodyPost_end0 rfl rfl ⟨rfl, ⟨_, by rw [HEQ4.out]; exact hH6⟩, hb6⟩
end Go.Proofs.Ytmamihkcikgmcaa
