/- For every input the law FnWorldStays returns true and leaves what was in memory as it was. No condition. -/
import Derived.Test.YtmamihkcikgmcaaKX
import Derived.Test.YtmamihkcikgmcaaKO1
import Derived.Test.YtmamihkcikgmcaaKY
import Derived.Test.YtmamihkcikgmcaaKL
import Derived.Test.YtmamihkcikgmcaaKB
import Derived.Test.YtmamihkcikgmcaaKA
import Derived.Deep.RegionWith
import Derived.Deep.DeepCutAuto
import Derived.Deep.CutRange
import Derived.Test.YtmamihkcikgmcaaOrd
namespace Go.Proofs.Ytmamihkcikgmcaa.fnWorldStays
open Go.ChangeShapes Go.WideShapes Go.ChangeAt Go.RowKit
open Go.ChangeMaps (open_string shut_string)
set_option linter.unusedVariables false

theorem hd_put {w : World} {B G : Nat} {x xs xb y ys yb : Value} {X Y : Wd} (h : Hd w B G x xs xb X) (hO : WOwn w B y ys yb Y) (hn : ∀ i, blkW y ys yb i → i ≠ G) :
    Hd (w.setCells G 0 (wcells y Y.tick Y.seed ys yb)) B G y ys yb Y ∧ w.grownBy (w.setCells G 0 (wcells y Y.tick Y.seed ys yb)) (some G) := by
  have hg := setCells_grown w G 0 (wcells y Y.tick Y.seed ys yb)
  exact ⟨⟨h.blk.setAll, hO.tch (S := fun i => i = G) (Tch.of_grown1 hg rfl) hn, fun e => hn _ (.inl e) rfl, fun e => hn _ (.inr (.inl e)) rfl, fun e => hn _ (.inr (.inr e)) rfl, h.ge⟩, hg⟩
theorem still_wldR {a : Act} {o : Oper} {w : World} (x : Operand) (ho : o.op = .load 36 x) (g : Nat) (hx : a.eval x = .pointer (some ⟨g, 0, none⟩)) (u : Value) (tk sd : Int) (us ub : Value) (hc : w.rangeAt g 0 (wcells u tk sd us ub)) : (execOp a.eval o).run Try.prog w = .ok (.value (.agg #[u, .int .i64 tk, .int .i64 sd, us, ub])) w := still_wldM x ho g hx u tk sd us ub hc
theorem hd_new {w wn : World} {G : Nat} {y ys yb : Value} {A : Wd} (hG : WBlk wn G y A.tick A.seed ys yb) (hO : WOwn wn w.heap.size y ys yb A) (hn : ∀ i, blkW y ys yb i → i ≠ G) (h : w.heap.size ≤ G) : Hd wn w.heap.size G y ys yb A := ⟨hG, hO, fun e => hn _ (.inl e) rfl, fun e => hn _ (.inr (.inl e)) rfl, fun e => hn _ (.inr (.inr e)) rfl, h⟩
def CoolAt (la : List Int) (W : Wd) (t k : Nat) : Prop := 0 ≤ iAt la k ∧ iAt la k ≤ t ∧ (0 < iAt la k → Cool ((t : Int) - iAt la k) (bAt W.bodies k))
theorem own_iAt {w : World} {B g n cap : Nat} {l : List Int} (h : Own w B 1 (.slice (some ⟨g, 0, none⟩) n cap) n (ints l)) {k : Nat} (hk : k < n) : l.length = n ∧ w.cell? ⟨g, k, none⟩ = some (.int .i64 (iAt l k)) := by
  have hl := h.len
  have hln : l.length = n := by simpa [ints] using hl
  refine ⟨hln, ?_⟩
  rw [h.cell (by omega), iAt_eq (by omega)]
  unfold ints
  rw [List.getElem?_map, List.getElem?_eq_getElem (by omega)]
  rfl
theorem elem_range {w : World} {g o : Nat} {b : Bd} (h : Elem w g o b) : w.rangeAt g o b.cells := by
  intro j v hv
  match j, hv with
  | 0, hv => exact h.c0.trans hv
  | 1, hv => exact h.c1.trans hv
  | 2, hv => exact h.c2.trans hv
  | 3, hv => exact h.c3.trans hv
  | 4, hv => exact h.c4.trans hv
  | 5, hv => exact h.c5.trans hv
  | 6, hv => exact h.c6.trans hv
  | 7, hv => exact h.c7.trans hv
  | 8, hv => exact h.c8.trans hv
  | j + 9, hv => cases hv
theorem cool_old {la la2 : List Int} {V : Wd} {t k : Nat} {A : Int} {P : Prop} (hnew : ∀ j, j < k → CoolAt la2 V (t + 1) j) (hold : ∀ j, k ≤ j → iAt la2 j = iAt la j) (hck : 0 ≤ A ∧ A ≤ t ∧ P) (hAk : iAt la2 k = A) (hc : 0 < A → Cool ((t : Int) - A + 1) (bAt V.bodies k)) {j : Nat} (hj : j < k + 1) : CoolAt la2 V (t + 1) j := by
  by_cases e : j = k
  · subst e
    unfold CoolAt
    rw [hAk]
    refine ⟨hck.1, by have := hck.2.1; omega, fun h => ?_⟩
    have := hc h
    unfold Cool at this ⊢
    omega
  · exact hnew j (by omega)
theorem cool_new {la2 : List Int} {V : Wd} {t k : Nat} {T : Int} (hnew : ∀ j, j < k → CoolAt la2 V (t + 1) j) (hk : k < la2.length) (hT : (bAt V.bodies k).timer = T) (h12 : T = 12) {j : Nat} (hj : j < k + 1) : CoolAt (la2.set k ((t : Int) + 1)) V (t + 1) j := by
  unfold CoolAt
  rw [iAt_set hk]
  by_cases e : j = k
  · subst e
    rw [if_pos rfl]
    refine ⟨by omega, by omega, fun h => ?_⟩
    unfold Cool
    omega
  · rw [if_neg e]
    exact hnew j (by omega)
/-- between two ticks: the world in its variable, the ticks of the last shots -/
structure StS (w w1 wr : World) (p3 n gl : Nat) (la : List Int) (W : Wd) (t : Nat) : Prop where
  hd : ∃ x xs xb, Hd wr w.heap.size p3 x xs xb W ∧ ∀ i, blkH p3 x xs xb i → i ≠ gl
  own : Own wr w1.heap.size 1 (.slice (some ⟨gl, 0, none⟩) n n) n (ints la)
  bl : Below w1.heap.size w1 wr
  ok : WOk W
  cnt : W.scores.length = n
  tick : W.tick = t
  cool : ∀ k, k < n → CoolAt la W t k
/-- the next world in a new variable -/
structure StM (w wr wx : World) (V : Wd) (p : Value) : Prop where
  ex : ∃ G y ys yb, p = .pointer (some ⟨G, 0, none⟩) ∧ Hd wx w.heap.size G y ys yb V ∧ ∀ i, blkH G y ys yb i → wr.heap.size ≤ i
  bl : Below wr.heap.size wr wx
/-- among the players of a tick -/
structure StK (w w1 wx : World) (p3 p8 n gl : Nat) (la la2 : List Int) (W V : Wd) (x xs xb y ys yb : Value) (t k : Nat) : Prop where
  h3 : Hd wx w.heap.size p3 x xs xb W
  h8 : Hd wx w.heap.size p8 y ys yb V
  own : Own wx w1.heap.size 1 (.slice (some ⟨gl, 0, none⟩) n n) n (ints la2)
  bl : Below w1.heap.size w1 wx
  new : ∀ j, j < k → CoolAt la2 V (t + 1) j
  old : ∀ j, k ≤ j → iAt la2 j = iAt la j
set_option maxRecDepth 100000 in
set_option maxHeartbeats 16000000 in
theorem walk (w : World) (a0 : Value) (w0 : Arg_u8s w a0) :
    Calls Try.prog 12 #[a0] w fun e w' => e = .returned (.bool true) ∧ Below w.heap.size w w' := by
  obtain ⟨l, hat, hwf⟩ := w0
  by_cases hbig : (1048576 : Int) < (l.length : Int)
  · obtain ⟨ao, cap, rfl, _⟩ := hat.cell
    go_enter Try.func12, Try.ntmps12
    go_wp2
    go_ret
    exact ⟨rfl, Below.refl _ _⟩
  have hm : l.length ≤ 1048576 := by omega
  have hd : Code8 w a0 l := ⟨hat, hwf, hm⟩
  obtain ⟨ao, cap, rfl, _⟩ := hat.cell
  go_enter Try.func12, Try.ntmps12
  go_wp2_with fail
  refine (big_no _ _ _ _ (by omega)).mono ?_
  rintro e w' ⟨rfl, rfl⟩
  generalize Value.slice ao l.length cap = cv at *
  go_wp2_with fail
  refine (play_ret w hd).mono ?_
  rintro e w1 ⟨x, xs, xb, rv, us, X, L, r, n, s, rfl, hD, hO, hL, hb⟩
  have hpl := hb.size
  have hne : x.ownBlock ≠ some w1.heap.size ∧ xs.ownBlock ≠ some w1.heap.size ∧ xb.ownBlock ≠ some w1.heap.size := ⟨fun e => by have := (hO.r.ge _ e).2; omega, fun e => by have := (hO.s.ge _ e).2; omega, fun e => by have := (hO.b.ge _ e).2; omega⟩
  have o1 := slice_one hO.at_.r
  have o2 := slice_one hO.at_.s
  have o3 := slice_one hO.at_.b
  go_upto_region 4 with (with_reducible refine store_wld (op := ⟨none, _, _, _, _, _⟩) rfl _ _ rfl w1.heap.size rfl x X.tick X.seed xs xb rfl (zwthere _ _) o1 o2 o3 ?_)
  have hq := newW5 hb hb.size 36 x X.tick X.seed xs xb
  generalize hwn : World.setCells (World.alloc w1 _) _ _ _ = w2
  rw [hwn] at hq
  obtain ⟨hG, hb', hk⟩ := hq
  have hb1 := hb
  replace hb := hb'
  have hk1 := hk
  replace hO := hO.below hk
  clear hwn hk hb' o1 o2 o3
  have hX := hD.wok
  have hcn := hD.cnt
  have hXw := hD.w
  obtain ⟨hn1, hn4⟩ := hD.n1
  have hll := hD.ll
  have HROK := Lib.hid (fun q hq => hD.rowok (q := q) hq)
  have HRWL := Lib.hid (fun q (hq : q ∈ L) => (hD.ok q hq).1)
  have h3 : Hd w2 w.heap.size w1.heap.size x xs xb X := hd_new hG hO (fun i hi e => by rcases hi with h | h | h; (· exact hne.1 (by rw [h, e])); (· exact hne.2.1 (by rw [h, e])); (· exact hne.2.2 (by rw [h, e]))) hpl
  have hl3 : ∀ i, blkH w1.heap.size x xs xb i → i < w2.heap.size := fun i hi => (h3.lt i hi).2
  have hn := hL.n
  have hL0 := hL
  obtain ⟨ro, rc, rfl, hrc⟩ := hL.o.cells1
  rw [hn] at hrc ⊢
  obtain ⟨so, sc, rfl, _⟩ := h3.own.s.at_.cell
  have c3 := h3.blk.c3
  rw [hcn] at c3
  have hXt : X.tick = ((0 : Nat) : Int) := by rw [hXw]; rfl
  clear hne hO hG hL hat hwf hm hd hbig hXw hD
  go_upto_region 5 with (fail)
  clear c3
  have hp3 : w1.heap.size < w2.heap.size := h3.blk.lt
  go_wp2_with (with_reducible refine make_int (o := ⟨some 21, _, _, _, _, _⟩) _ rfl _ _ rfl w2.heap.size n rfl rfl (by omega) (Nat.le_refl _) ?_)
  intro wm hm hg
  have hk : Below w2.heap.size w2 wm := (Below.refl _ _).grown hg (Nat.le_refl _) (fun k h => by cases h)
  have hI : StS w w1 wm w1.heap.size n w2.heap.size (List.replicate n 0) X 0 := ⟨⟨_, _, _, h3.below hk, fun i hi => by have := hl3 i hi; omega⟩, by unfold ints; rw [List.map_replicate]; exact hm.mono (Nat.le_of_lt hp3), hk1.trans (hk.mono (Nat.le_of_lt hp3)), hX, hcn, hXt, fun k hk => by
    have e : iAt (List.replicate n (0 : Int)) k = 0 := by unfold iAt List.getD; rw [List.getElem?_replicate]; split <;> rfl
    exact ⟨by rw [e]; omega, by rw [e]; omega, fun h => by rw [e] at h; omega⟩⟩
  have hglt := hm.ge w2.heap.size rfl
  clear hm hg hk h3 hl3 hb hk1 hX hXt hcn
  generalize w2.heap.size = gl at *
  have hg3 : w1.heap.size ≠ gl := by omega
  have hw1 : w.heap.size ≤ w1.heap.size := hpl
  go_wp2_with fail
  go_loopw [7] (fun i wr => ∃ (t : Nat) (la : List Int) (W : Wd), t ≤ L.length ∧ i = .int .i64 (t : Int) ∧ StS w w1 wr w1.heap.size n gl la W t) (fun i _ => L.length - (intOf i).toNat)
  case atStart => exact ⟨0, _, X, Nat.zero_le _, by first | rfl | go_num, hI⟩
  case round =>
    clear hI
    obtain ⟨t, la, W, ht, rfl, ⟨⟨x, xs, xb, h3, hne3⟩, hown, hbl, hW, hWn, hWt, hcool⟩⟩ := hrel
    by_cases hlt : t < L.length
    · have hmem : lAt L t ∈ L := by rw [lAt_eq hlt]; exact List.getElem_mem _
      have hrk := HROK.out _ hmem
      have hrl := HRWL.out _ hmem
      have hra := (hL0.r t hlt).below hbl
      obtain ⟨gr, offr, rfl, hgr, hcell⟩ := hrc (by omega)
      have crk := (hbl.cell hgr).trans (hcell t (by omega))
      generalize vAt us t = rk at crk hra
      obtain ⟨row, hrow⟩ : ∃ row, lAt L t = row := ⟨_, rfl⟩
      rw [hrow] at hrk hrl hra
      obtain ⟨V, hVe⟩ : ∃ V, stepT W row = V := ⟨_, rfl⟩
      have hVU : stepU W row = V := by rw [← hVe]; exact (if_pos ⟨ok_okW hW, by omega, by rw [hWn]; exact hrk⟩ : stepT W row = stepU W row).symm
      have hVok := stepT_ok (row := row) hW
      have hVt := (stepU_sc W row).2.2
      have hup := stepU_up (row := row) hW
      have hcs := fun k hk s h0 hc => cool_step (row := row) hW (k := k) hk (s := s) h0 hc
      rw [hVe] at hVok
      rw [hVU] at hVt hup hcs
      obtain ⟨hV, hVn, _⟩ := hVok
      rw [hWn] at hVn hup hcs
      have HSW : ∀ wx, Hd wx w.heap.size w1.heap.size x xs xb W → At wx 1 rk row.length (ints row) → Calls Try.prog 34 #[.agg #[x, .int .i64 W.tick, .int .i64 W.seed, xs, xb], rk] wx fun e w' => ∃ y ys yb, e = .returned (.agg #[y, .int .i64 V.tick, .int .i64 V.seed, ys, yb]) ∧ WOwn w' wx.heap.size y ys yb V ∧ Below wx.heap.size wx w' := fun wx hx hr => by rw [← hVe]; exact stepworld_impl wx hx.own.at_ (wok_small hW) (wok_bwf hW) hr (by omega)
      clear hmem hcell hVe hVU hrow
      have x1 : decide ((t : Int) < (L.length : Int)) = true := decide_eq_true (by omega)
      have hgrw : gr < wr.heap.size := Nat.lt_of_lt_of_le hgr hbl.size
      have hWT := Lib.hid hWt
      have hVT := Lib.hid hVt
      have hVN := Lib.hid hVn
      have hWN := Lib.hid hWn
      clear hWt hVt hVn hWn
      go_upto_region 9 with (fail)
      clear x1
      have h3d := h3.drew
      have hB0 := (Below.refl wr.heap.size wr).drew
      have hrd := hra.below hB0
      have hsw := hbl.size
      go_cut [8] (fun p wx => StM w wr wx V p)
      case first =>
        refine wp_region_sch (fun wx => Hd wx w.heap.size w1.heap.size x xs xb W ∧ Below wr.heap.size wr wx) 7 4 (.st 0 (.st 1 (.st 2 (.st 3 (.st 4 (.two 5 (.ef 6 (.fin [7])) 6 (.ef 5 (.fin [7])))))))) (by kernel_rfl) (by kernel_rfl) (fun _ _ d _ _ h => by cases d <;> exact h) ⟨h3d, hB0⟩ ?_
        refine sch_still (o := ⟨some 28, _, _, _, _, _⟩) (v := .agg #[x, .int .i64 W.tick, .int .i64 W.seed, xs, xb]) rfl rfl ?_ ?_
        · intro wx hSx
          exact still_wldR _ rfl _ rfl _ _ _ _ _ hSx.1.blk.range
        simp only [Act.put, List.setIfInBounds_toArray, List.set_cons_zero, List.set_cons_succ]
        refine sch_still (o := ⟨some 29, _, _, _, _, _⟩) (v := .slice (some ⟨gr, offr, none⟩) L.length rc) rfl rfl ?_ ?_
        · intro wx hSx
          go_simp
        simp only [Act.put, List.setIfInBounds_toArray, List.set_cons_zero, List.set_cons_succ]
        refine sch_still (o := ⟨some 30, _, _, _, _, _⟩) (v := .int .i64 (t : Int)) rfl rfl ?_ ?_
        · intro wx hSx
          go_simp
        simp only [Act.put, List.setIfInBounds_toArray, List.set_cons_zero, List.set_cons_succ]
        refine sch_still (o := ⟨some 31, _, _, _, _, _⟩) (v := .pointer (some ⟨gr, offr + t, none⟩)) rfl rfl ?_ ?_
        · intro wx hSx
          go_simp; first | done | (intro e; exact absurd e (by omega))
        simp only [Act.put, List.setIfInBounds_toArray, List.set_cons_zero, List.set_cons_succ]
        refine sch_still (o := ⟨some 32, _, _, _, _, _⟩) (v := rk) rfl rfl ?_ ?_
        · intro wx hSx
          have c := (hSx.2.cell (p := ⟨gr, offr + t, none⟩) hgrw).trans crk; go_simp
        simp only [Act.put, List.setIfInBounds_toArray, List.set_cons_zero, List.set_cons_succ]
        generalize wr.drew = wq at *
        refine sch_2 (o := ⟨some 33, _, _, _, _, _⟩) (p := ⟨some 8, _, _, _, _, _⟩) rfl rfl ?_ ?_
        · refine wpList_callC rfl 34 _ _ rfl Try.func34 (by kernel_rfl) (by kernel_rfl) #[.agg #[x, .int .i64 W.tick, .int .i64 W.seed, xs, xb], rk] (by kernel_rfl) (HSW _ h3d hrd) ?_
          rintro e wc ⟨y, ys, yb, rfl, hO2, hk⟩
          refine ⟨_, rfl, ?_⟩
          have hBc := hB0.trans (hk.mono hB0.size)
          have hOg := hO2.ge
          have hz1 := hB0.size
          have hz2 := hk.size
          have h3c := h3d.below hk
          clear hk
          refine sch_next ⟨h3c, hBc⟩ ?_
          simp only [Act.put, List.setIfInBounds_toArray, List.set_cons_zero, List.set_cons_succ]
          refine sch_ef (o := ⟨some 8, _, _, _, _, _⟩) rfl ?_
          refine alloc_wld rfl rfl ?_
          have hG := WBlk.new wc 36 nilV 0 0 nilV nilV
          have hk : Below wc.heap.size wc (wc.alloc (.cells #[nilV, .int .i64 0, .int .i64 0, nilV, nilV] 36)) := (Below.refl _ _).alloc (Nat.le_refl _) _
          generalize World.alloc wc _ = wd at hG hk ⊢
          have hBd := hBc.trans (hk.mono hBc.size)
          have hOd := hO2.below hk
          have hGl := hG.lt
          refine sch_next ⟨h3c.below hk, hBd⟩ ?_
          simp only [Act.put, List.setIfInBounds_toArray, List.set_cons_zero, List.set_cons_succ]
          refine sch_end (.cons (o := ⟨none, _, _, _, _, _⟩) rfl .nil) ?_
          have ox := slice_one hOd.at_.r
          have oxs := slice_one hOd.at_.s
          have oxb := slice_one hOd.at_.b
          refine store_wld (op := ⟨none, _, _, _, _, _⟩) rfl _ _ rfl wc.heap.size rfl y V.tick V.seed ys yb rfl hG.there ox oxs oxb ?_
          have hq := And.intro (hG.setAll (u' := y) (us' := ys) (ub' := yb) (tk' := V.tick) (sd' := V.seed)) (setCells_grown wd wc.heap.size 0 (wcells y V.tick V.seed ys yb))
          generalize World.setCells wd _ _ _ = wn at hq
          obtain ⟨hGn, hgr2⟩ := hq
          have hOn := (hOd.tch (S := fun i => i = wc.heap.size) (Tch.of_grown1 hgr2 rfl) (fun i hi e => by have := hOg i hi; omega)).mono (B' := w.heap.size) (by omega)
          have hBn : Below wr.heap.size wr wn := hBd.grown hgr2 (by omega) (fun k h => by simp only [Option.some.injEq] at h; omega)
          have hN := hd_new hGn hOn (fun i hi e => by have := hOg i hi; omega) (by omega)
          have hge : ∀ i, blkH (wc.heap.size) y ys yb i → wr.heap.size ≤ i := fun i hi => by rcases hi with rfl | hi; (· omega); (· have := hOg i hi; omega)
          go_wp2_with fail
          go_meet
          case rel => exact ⟨⟨_, _, _, _, rfl, hN, hge⟩, hBn⟩
        · refine alloc_wld rfl rfl ?_
          have hG0 := WBlk.new wq 36 nilV 0 0 nilV nilV
          have hk : Below wq.heap.size wq (wq.alloc (.cells #[nilV, .int .i64 0, .int .i64 0, nilV, nilV] 36)) := (Below.refl _ _).alloc (Nat.le_refl _) _
          generalize World.alloc wq _ = wc at hG0 hk ⊢
          have hBc := hB0.trans (hk.mono hB0.size)
          have h3c := h3d.below hk
          have hrc2 := hrd.below hk
          have hz1 := hB0.size
          have hGl := hG0.lt
          refine sch_next ⟨h3c, hBc⟩ ?_
          simp only [Act.put, List.setIfInBounds_toArray, List.set_cons_zero, List.set_cons_succ]
          refine sch_ef (o := ⟨some 33, _, _, _, _, _⟩) rfl ?_
          refine wpList_callC rfl 34 _ _ rfl Try.func34 (by kernel_rfl) (by kernel_rfl) #[.agg #[x, .int .i64 W.tick, .int .i64 W.seed, xs, xb], rk] (by kernel_rfl) (HSW _ h3c hrc2) ?_
          rintro e wd ⟨y, ys, yb, rfl, hOd, hk2⟩
          refine ⟨_, rfl, ?_⟩
          have hOg := hOd.ge
          have hBd := hBc.trans (hk2.mono hBc.size)
          have hG := hG0.below hk2 hG0.lt
          have hz2 := hk2.size
          refine sch_next ⟨h3c.below hk2, hBd⟩ ?_
          simp only [Act.put, List.setIfInBounds_toArray, List.set_cons_zero, List.set_cons_succ]
          refine sch_end (.cons (o := ⟨none, _, _, _, _, _⟩) rfl .nil) ?_
          have ox := slice_one hOd.at_.r
          have oxs := slice_one hOd.at_.s
          have oxb := slice_one hOd.at_.b
          refine store_wld (op := ⟨none, _, _, _, _, _⟩) rfl _ _ rfl wq.heap.size rfl y V.tick V.seed ys yb rfl hG.there ox oxs oxb ?_
          have hq := And.intro (hG.setAll (u' := y) (us' := ys) (ub' := yb) (tk' := V.tick) (sd' := V.seed)) (setCells_grown wd wq.heap.size 0 (wcells y V.tick V.seed ys yb))
          generalize World.setCells wd _ _ _ = wn at hq
          obtain ⟨hGn, hgr2⟩ := hq
          have hOn := (hOd.tch (S := fun i => i = wq.heap.size) (Tch.of_grown1 hgr2 rfl) (fun i hi e => by have := hOg i hi; omega)).mono (B' := w.heap.size) (by omega)
          have hBn : Below wr.heap.size wr wn := hBd.grown hgr2 (by omega) (fun k h => by simp only [Option.some.injEq] at h; omega)
          have hN := hd_new hGn hOn (fun i hi e => by have := hOg i hi; omega) (by omega)
          have hge : ∀ i, blkH (wq.heap.size) y ys yb i → wr.heap.size ≤ i := fun i hi => by rcases hi with rfl | hi; (· omega); (· have := hOg i hi; omega)
          go_wp2_with fail
          go_meet
          case rel => exact ⟨⟨_, _, _, _, rfl, hN, hge⟩, hBn⟩
      case rest =>
      clear h3d hB0 hrd HSW crk hra
      obtain ⟨⟨p8, y, ys, yb, rfl, h8, hge8⟩, hk⟩ := hcut
      have hglw := (hown.ge gl rfl).2
      replace h3 := h3.below hk
      replace hown := hown.below hk (fun g hg => (hown.ge g hg).2)
      replace hbl := hbl.trans (hk.mono hsw)
      have hb8 : ∀ i, blkH p8 y ys yb i → i ≠ gl ∧ i ≠ w1.heap.size := fun i hi => by have := hge8 i hi; omega
      clear hk hge8 hsw hgrw hgr hglw
      have hVs := wok_small hV
      have hVb := wok_bwf hV
      have hvn1 := hV.bods.le
      have hwn1 := hW.bods.le
      have hvn := hVN.out
      have hwn := hWN.out
      obtain ⟨gs8, cs8, rfl, _⟩ := h8.formS (by omega)
      obtain ⟨gb8, cb8, rfl, _⟩ := h8.formB (by omega)
      obtain ⟨gs3, cs3, rfl, _⟩ := h3.formS (by omega)
      obtain ⟨gb3, cb3, rfl, _⟩ := h3.formB (by omega)
      rw [hvn] at h8 hb8
      rw [hwn] at h3 hne3
      have HW := Lib.hid (worldok_impl (X := V) (u := y) (us := .slice (some ⟨gs8, 0, none⟩) n cs8) (ub := .slice (some ⟨gb8, 0, none⟩) V.bodies.length cb8))
      go_wp2_with (with_reducible refine load_wld (op := ⟨some 34, _, _, _, _, _⟩) rfl _ rfl p8 rfl y V.tick V.seed _ _ h8.blk.range ?_)
      refine (HW.out _ h8.own.at_ hVs hVb).mono ?_
      rintro e wd ⟨rfl, hk⟩
      rw [ok_okW hV]
      replace h3 := h3.below hk
      replace h8 := h8.below hk
      replace hown := hown.below hk (fun g hg => (hown.ge g hg).2)
      replace hbl := hbl.trans (hk.mono hbl.size)
      clear hk HW hVs
      have c1 := h8.blk.c1
      have d1 := h3.blk.c1
      rw [hVT.out, hWT.out] at c1
      rw [hWT.out] at d1
      have c3 := h8.blk.c3
      clear hvn hwn
      go_upto_region 12 with (fail)
      clear c1 d1 c3
      go_wp2_with fail
      go_loopw [9] (fun i wx => ∃ (k : Nat) (la2 : List Int), k ≤ n ∧ i = .int .i64 (k : Int) ∧ StK w w1 wx w1.heap.size p8 n gl la la2 W V x (.slice (some ⟨gs3, 0, none⟩) n cs3) (.slice (some ⟨gb3, 0, none⟩) W.bodies.length cb3) y (.slice (some ⟨gs8, 0, none⟩) n cs8) (.slice (some ⟨gb8, 0, none⟩) V.bodies.length cb8) t k) (fun i _ => n - (intOf i).toNat)
      case atStart => exact ⟨0, la, Nat.zero_le _, by first | rfl | go_num, ⟨h3, h8, hown, hbl, fun j h => by omega, fun j _ => rfl⟩⟩
      case round =>
        clear h3 h8 hown hbl
        obtain ⟨k, la2, hk, rfl, ⟨h3, h8, hown, hbl, hnew, hold⟩⟩ := hrel
        by_cases hkn : k < n
        · have hkV : k < V.scores.length := by rw [hVN.out]; exact hkn
          have hkW : k < W.scores.length := by rw [hWN.out]; exact hkn
          have hk8 : k < V.bodies.length := by omega
          have hk3 : k < W.bodies.length := by omega
          have hupk := hup k hkn
          have x3 : decide (iAt V.scores k < iAt W.scores k) = false := decide_eq_false (by omega)
          have x1 : decide ((k : Int) < (n : Int)) = true := decide_eq_true (by omega)
          have hokB : okBd V.rows (n : Int) (bAt V.bodies k) = true := by
            have h := hV.bods.any_at hV.lv hk8
            rw [← bAt_eq hk8, hVN.out] at h
            exact h
          have hwfB : BWf (bAt V.bodies k) := by rw [bAt_eq hk8]; exact hVb _ (List.getElem_mem _)
          obtain ⟨hl12, hl20⟩ := lv_sizes hV.lv
          have HBO : ∀ wx, At wx 1 y V.rows.length (V.rows.map Value.string) → Calls Try.prog 54 #[.agg #[y], .int .i64 (n : Int), (bAt V.bodies k).val] wx fun e w' => e = .returned (.bool true) ∧ Below wx.heap.size wx w' := fun wx hy => by
            have h := bok_impl (n : Int) (bAt V.bodies k) wx hy (by omega) (fun s hs => by have := hl20 s hs; omega) hwfB
            rw [hokB] at h
            exact h
          have hcsk := hcs k hkn
          have hck := hcool k hkn
          obtain ⟨A, hA⟩ : ∃ A, iAt la k = A := ⟨_, rfl⟩
          have hAk : iAt la2 k = A := by rw [hold k (Nat.le_refl _), hA]
          unfold CoolAt at hck
          rw [hA] at hck
          clear hokB hwfB hl12 hl20 hupk hA
          go_upto_region 15 with (fail)
          clear x1
          have h3d := h3.drew
          have h8d := h8.drew
          have hownd := hown.drew
          have hbld := hbl.drew
          clear h3 h8 hown hbl
          refine wp_region_sch2 (fun wx => Hd wx w.heap.size w1.heap.size x (.slice (some ⟨gs3, 0, none⟩) n cs3) (.slice (some ⟨gb3, 0, none⟩) W.bodies.length cb3) W ∧ Hd wx w.heap.size p8 y (.slice (some ⟨gs8, 0, none⟩) n cs8) (.slice (some ⟨gb8, 0, none⟩) V.bodies.length cb8) V) 20 [0, 1, 2, 3, 4, 5, 6, 7, 8, 9, 10, 11, 12, 13, 14, 15, 16, 17, 18, 19] (.st 0 (.st 1 (.st 2 (.st 3 (.st 4 (.st 5 (.st 6 (.st 7 (.st 8 (.st 9 (.st 10 (.st 11 (.st 12 (.st 13 (.st 14 (.st 15 (.st 16 (.st 17 (.st 18 (.st 19 (.fin [20, 21, 22]))))))))))))))))))))) (by kernel_rfl) (by kernel_rfl) (fun _ _ d _ _ h => by cases d <;> exact h) ⟨h3d, h8d⟩ ?_
          refine sch_still (o := ⟨some 57, _, _, _, _, _⟩) (v := .pointer (some ⟨p8, 3, none⟩)) rfl rfl ?_ ?_
          · intro wx hSx
            go_simp
          simp only [Act.put, List.setIfInBounds_toArray, List.set_cons_zero, List.set_cons_succ]
          refine sch_still (o := ⟨some 58, _, _, _, _, _⟩) (v := (.slice (some ⟨gs8, 0, none⟩) n cs8)) rfl rfl ?_ ?_
          · intro wx hSx
            have e := hSx.2.blk.c3; go_simp
          simp only [Act.put, List.setIfInBounds_toArray, List.set_cons_zero, List.set_cons_succ]
          refine sch_still (o := ⟨some 59, _, _, _, _, _⟩) (v := .int .i64 (k : Int)) rfl rfl ?_ ?_
          · intro wx hSx
            go_simp
          simp only [Act.put, List.setIfInBounds_toArray, List.set_cons_zero, List.set_cons_succ]
          refine sch_still (o := ⟨some 60, _, _, _, _, _⟩) (v := .pointer (some ⟨gs8, k, none⟩)) rfl rfl ?_ ?_
          · intro wx hSx
            go_simp; first | done | (intro e; exact absurd e (by omega))
          simp only [Act.put, List.setIfInBounds_toArray, List.set_cons_zero, List.set_cons_succ]
          refine sch_still (o := ⟨some 61, _, _, _, _, _⟩) (v := .int .i64 (iAt V.scores k)) rfl rfl ?_ ?_
          · intro wx hSx
            have e := (score_cell hSx.2 rfl hkV).1; go_simp
          simp only [Act.put, List.setIfInBounds_toArray, List.set_cons_zero, List.set_cons_succ]
          refine sch_still (o := ⟨some 62, _, _, _, _, _⟩) (v := .pointer (some ⟨w1.heap.size, 3, none⟩)) rfl rfl ?_ ?_
          · intro wx hSx
            go_simp
          simp only [Act.put, List.setIfInBounds_toArray, List.set_cons_zero, List.set_cons_succ]
          refine sch_still (o := ⟨some 63, _, _, _, _, _⟩) (v := (.slice (some ⟨gs3, 0, none⟩) n cs3)) rfl rfl ?_ ?_
          · intro wx hSx
            have e := hSx.1.blk.c3; go_simp
          simp only [Act.put, List.setIfInBounds_toArray, List.set_cons_zero, List.set_cons_succ]
          refine sch_still (o := ⟨some 64, _, _, _, _, _⟩) (v := .int .i64 (k : Int)) rfl rfl ?_ ?_
          · intro wx hSx
            go_simp
          simp only [Act.put, List.setIfInBounds_toArray, List.set_cons_zero, List.set_cons_succ]
          refine sch_still (o := ⟨some 65, _, _, _, _, _⟩) (v := .pointer (some ⟨gs3, k, none⟩)) rfl rfl ?_ ?_
          · intro wx hSx
            go_simp; first | done | (intro e; exact absurd e (by omega))
          simp only [Act.put, List.setIfInBounds_toArray, List.set_cons_zero, List.set_cons_succ]
          refine sch_still (o := ⟨some 66, _, _, _, _, _⟩) (v := .int .i64 (iAt W.scores k)) rfl rfl ?_ ?_
          · intro wx hSx
            have e := (score_cell hSx.1 rfl hkW).1; go_simp
          simp only [Act.put, List.setIfInBounds_toArray, List.set_cons_zero, List.set_cons_succ]
          refine sch_still (o := ⟨some 67, _, _, _, _, _⟩) (v := .bool false) rfl rfl ?_ ?_
          · intro wx hSx
            go_simp
          simp only [Act.put, List.setIfInBounds_toArray, List.set_cons_zero, List.set_cons_succ]
          refine sch_still (o := ⟨some 68, _, _, _, _, _⟩) (v := .bool false) rfl rfl ?_ ?_
          · intro wx hSx
            go_simp
          simp only [Act.put, List.setIfInBounds_toArray, List.set_cons_zero, List.set_cons_succ]
          refine sch_gd (o := ⟨some 69, _, _, _, _, _⟩) (v := .pointer (some ⟨p8, 0, none⟩)) rfl (by rfl) ?_ ?_
          · intro wx hSx
            go_simp
          simp only [Act.put, List.setIfInBounds_toArray, List.set_cons_zero, List.set_cons_succ]
          refine sch_gd (o := ⟨some 70, _, _, _, _, _⟩) (v := .agg #[y]) rfl (by rfl) ?_ ?_
          · intro wx hSx
            have e := hSx.2.blk.c0; go_simp
          simp only [Act.put, List.setIfInBounds_toArray, List.set_cons_zero, List.set_cons_succ]
          refine sch_gd (o := ⟨some 71, _, _, _, _, _⟩) (v := .int .i64 (n : Int)) rfl (by rfl) ?_ ?_
          · intro wx hSx
            go_simp
          simp only [Act.put, List.setIfInBounds_toArray, List.set_cons_zero, List.set_cons_succ]
          refine sch_gd (o := ⟨some 72, _, _, _, _, _⟩) (v := .pointer (some ⟨p8, 4, none⟩)) rfl (by rfl) ?_ ?_
          · intro wx hSx
            go_simp
          simp only [Act.put, List.setIfInBounds_toArray, List.set_cons_zero, List.set_cons_succ]
          refine sch_gd (o := ⟨some 73, _, _, _, _, _⟩) (v := (.slice (some ⟨gb8, 0, none⟩) V.bodies.length cb8)) rfl (by rfl) ?_ ?_
          · intro wx hSx
            have e := hSx.2.blk.c4; go_simp
          simp only [Act.put, List.setIfInBounds_toArray, List.set_cons_zero, List.set_cons_succ]
          refine sch_gd (o := ⟨some 74, _, _, _, _, _⟩) (v := .int .i64 (k : Int)) rfl (by rfl) ?_ ?_
          · intro wx hSx
            go_simp
          simp only [Act.put, List.setIfInBounds_toArray, List.set_cons_zero, List.set_cons_succ]
          refine sch_gd (o := ⟨some 75, _, _, _, _, _⟩) (v := .pointer (some ⟨gb8, k * 9, none⟩)) rfl (by rfl) ?_ ?_
          · intro wx hSx
            go_simp; first | done | (intro e; exact absurd e (by omega))
          simp only [Act.put, List.setIfInBounds_toArray, List.set_cons_zero, List.set_cons_succ]
          refine sch_gd (o := ⟨some 76, _, _, _, _, _⟩) (v := (bAt V.bodies k).val) rfl (by rfl) ?_ ?_
          · intro wx hSx
            exact still_bodL _ rfl gb8 (k * 9) rfl _ (elem_range (hSx.2.elemAt hk8))
          simp only [Act.put, List.setIfInBounds_toArray, List.set_cons_zero, List.set_cons_succ]
          have hBO := HBO wr.drew h8d.own.at_.r
          clear HBO x3
          generalize wr.drew = wq at *
          refine sch_end (.cons (o := ⟨some 77, _, _, _, _, _⟩) rfl (.cons (o := ⟨some 78, _, _, _, _, _⟩) rfl (.cons (o := ⟨some 79, _, _, _, _, _⟩) rfl .nil))) ?_
          go_wp2_with fail
          refine hBO.mono ?_
          rintro e wF ⟨rfl, hk2⟩
          have h3f := h3d.below hk2
          have h8f := h8d.below hk2
          have hownf := hownd.below hk2 (fun g hg => (hownd.ge g hg).2)
          have hblf := hbld.trans (hk2.mono hbld.size)
          clear h3d h8d hownd hbld hk2 hBO
          go_upto_region 17 with (fail)
          have e8 := (h8f.elemAt hk8).c8
          have e7 := (h8f.elemAt hk8).c7
          have f7 := (h3f.elemAt hk3).c7
          have c4 := h8f.blk.c4
          have d4 := h3f.blk.c4
          obtain ⟨T, hT⟩ : ∃ T, (bAt V.bodies k).timer = T := ⟨_, rfl⟩
          obtain ⟨P8, hP8⟩ : ∃ P, (bAt V.bodies k).life = P := ⟨_, rfl⟩
          obtain ⟨P3, hP3⟩ : ∃ P, (bAt W.bodies k).life = P := ⟨_, rfl⟩
          rw [hT] at e8 hcsk
          rw [hP8] at e7 hcsk
          rw [hP3] at f7 hcsk
          have HT := Lib.hid hT
          clear hT hP8 hP3
          by_cases hc : T = 12 ∧ 0 < P8 ∧ 0 < P3
          · have x4 : (T == 12) = true := beq_iff_eq.2 hc.1
            have y1 : decide (0 < P8) = true := decide_eq_true hc.2.1
            have y2 : decide (0 < P3) = true := decide_eq_true hc.2.2
            obtain ⟨hla, hcl⟩ := own_iAt hownf hkn
            have hfr := hownf.free k (by omega)
            rw [hAk] at hcl
            go_upto_region 18 with (fail)
            clear x4 y1 y2 e8 e7 f7 c4 d4
            by_cases hA : 0 < A
            · have hc2 := (hcsk ((t : Int) - A) (by omega) (hck.2.2 hA)).2 hc.1 hc.2.1 hc.2.2
              have x5 : decide (0 < A) = true := decide_eq_true hA
              have x6 : decide ((t : Int) + 1 - A < 12) = false := decide_eq_false (by omega)
              go_upto_region 20 with (fail)
              clear x5 x6
              go_wp2_with (with_reducible refine store_cell (o := ⟨none, _, _, _, _, _⟩) rfl _ _ _ rfl gl k rfl (.int .i64 ((t : Int) + 1)) rfl rfl size_int hcl hfr ?_)
              have hq := hownf.stored k (.int .i64 ((t : Int) + 1)) (by omega)
              generalize World.setCell _ _ _ = wz at hq
              obtain ⟨hoz, hgz⟩ := hq
              have h3z := h3f.tch (S := fun i => i = gl) (Tch.of_grown1 hgz rfl) (fun i hi => hne3 i hi)
              have h8z := h8f.tch (S := fun i => i = gl) (Tch.of_grown1 hgz rfl) (fun i hi => (hb8 i hi).1)
              have hbz := hblf.grown hgz hblf.size (fun k h => by simp only [Option.some.injEq] at h; omega)
              go_wp2_with fail
              go_roundw
              case rel => exact ⟨k + 1, la2.set k ((t : Int) + 1), by omega, by go_num, ⟨h3z, h8z, by unfold ints; rw [List.map_set]; exact hoz, hbz, fun j hj => cool_new hnew (by omega) HT.out hc.1 hj, fun j hj => by rw [iAt_set (by omega), if_neg (by omega)]; exact hold j (by omega)⟩⟩
              case measure => simp [intOf]; omega
            · have x5 : decide (0 < A) = false := decide_eq_false hA
              have x6 := True.intro
              go_upto_region 20 with (fail)
              clear x5 x6
              go_wp2_with (with_reducible refine store_cell (o := ⟨none, _, _, _, _, _⟩) rfl _ _ _ rfl gl k rfl (.int .i64 ((t : Int) + 1)) rfl rfl size_int hcl hfr ?_)
              have hq := hownf.stored k (.int .i64 ((t : Int) + 1)) (by omega)
              generalize World.setCell _ _ _ = wz at hq
              obtain ⟨hoz, hgz⟩ := hq
              have h3z := h3f.tch (S := fun i => i = gl) (Tch.of_grown1 hgz rfl) (fun i hi => hne3 i hi)
              have h8z := h8f.tch (S := fun i => i = gl) (Tch.of_grown1 hgz rfl) (fun i hi => (hb8 i hi).1)
              have hbz := hblf.grown hgz hblf.size (fun k h => by simp only [Option.some.injEq] at h; omega)
              go_wp2_with fail
              go_roundw
              case rel => exact ⟨k + 1, la2.set k ((t : Int) + 1), by omega, by go_num, ⟨h3z, h8z, by unfold ints; rw [List.map_set]; exact hoz, hbz, fun j hj => cool_new hnew (by omega) HT.out hc.1 hj, fun j hj => by rw [iAt_set (by omega), if_neg (by omega)]; exact hold j (by omega)⟩⟩
              case measure => simp [intOf]; omega
          · have hcsk1 : 0 < A → Cool ((t : Int) - A + 1) (bAt V.bodies k) := fun hA => (hcsk ((t : Int) - A) (by omega) (hck.2.2 hA)).1
            have hor : (T == 12) = false ∨ ((T == 12) = true ∧ decide (0 < P8) = false) ∨ ((T == 12) = true ∧ decide (0 < P8) = true ∧ decide (0 < P3) = false) := by
              by_cases a : T = 12
              · by_cases b : 0 < P8
                · exact .inr (.inr ⟨beq_iff_eq.2 a, decide_eq_true b, decide_eq_false (fun c => hc ⟨a, b, c⟩)⟩)
                · exact .inr (.inl ⟨beq_iff_eq.2 a, decide_eq_false b⟩)
              · exact .inl (beq_eq_false_iff_ne.2 a)
            rcases hor with x4 | ⟨x4, y1⟩ | ⟨x4, y1, y2⟩
            · go_wp2_with fail
              go_roundw
              case rel => exact ⟨k + 1, la2, by omega, by go_num, ⟨h3f, h8f, hownf, hblf, fun j hj => cool_old hnew hold hck hAk hcsk1 hj, fun j hj => hold j (by omega)⟩⟩
              case measure => simp [intOf]; omega
            · go_wp2_with fail
              go_roundw
              case rel => exact ⟨k + 1, la2, by omega, by go_num, ⟨h3f, h8f, hownf, hblf, fun j hj => cool_old hnew hold hck hAk hcsk1 hj, fun j hj => hold j (by omega)⟩⟩
              case measure => simp [intOf]; omega
            · go_wp2_with fail
              go_roundw
              case rel => exact ⟨k + 1, la2, by omega, by go_num, ⟨h3f, h8f, hownf, hblf, fun j hj => cool_old hnew hold hck hAk hcsk1 hj, fun j hj => hold j (by omega)⟩⟩
              case measure => simp [intOf]; omega
        · obtain rfl : k = n := by omega
          have x1 : decide ((k : Int) < (k : Int)) = false := decide_eq_false (by omega)
          have o1 := slice_one h8.own.at_.r
          have o2 := slice_one h8.own.at_.s
          have o3 := slice_one h8.own.at_.b
          go_upto_region 21 with (fail)
          clear x1
          go_upto_region 8 with (first | (with_reducible refine load_wld (op := ⟨some 125, _, _, _, _, _⟩) rfl _ rfl p8 rfl y V.tick V.seed _ _ h8.blk.range ?_) | (with_reducible refine store_wld (op := ⟨none, _, _, _, _, _⟩) rfl _ _ rfl w1.heap.size rfl y V.tick V.seed _ _ rfl h3.blk.there o1 o2 o3 ?_))
          have hq := hd_put h3 h8.own (fun i hi => (hb8 i (.inr hi)).2)
          generalize World.setCells _ _ _ _ = wn at hq
          obtain ⟨hHn, hgr2⟩ := hq
          have hownn := hown.kept hgr2 (.inr (fun e => hg3 (Option.some.inj e).symm))
          have hbn := hbl.grown hgr2 hbl.size (fun k h => by simp only [Option.some.injEq] at h; omega)
          clear h3 h8 hown hbl hgr2 o1 o2 o3
          go_wp2_with fail
          go_roundw
          case rel => exact ⟨t + 1, la2, V, by omega, by go_num, ⟨⟨_, _, _, hHn, fun i hi => by rcases hi with rfl | hi; (· exact hg3); (· exact (hb8 i (.inr hi)).1)⟩, hownn, hbn, hV, hVN.out, by rw [hVT.out, hWT.out]; omega, hnew⟩⟩
          case measure => simp [intOf]; omega
    · have x1 : decide ((t : Int) < (L.length : Int)) = false := decide_eq_false (by omega)
      clear hWt
      have HW := Lib.hid (worldok_impl (X := W) wr h3.own.at_ (wok_small hW) (wok_bwf hW))
      go_wp2_with (with_reducible refine load_wld (op := ⟨some 126, _, _, _, _, _⟩) rfl _ rfl w1.heap.size rfl x W.tick W.seed xs xb h3.blk.range ?_)
      refine HW.out.mono ?_
      rintro e wd ⟨rfl, hk⟩
      rw [ok_okW hW]
      have hbz := hb1.trans ((hbl.trans (hk.mono hbl.size)).mono hpl)
      clear hk HW h3 hown hbl
      go_wp2_with fail
      go_ret
      exact ⟨rfl, hbz⟩

set_option maxRecDepth 100000 in
theorem lifted (os : Os) (started : os.Started) (H : Type) (enc : TypeId × Value → H) :
    ReturnsInHanded {} Try.checked os 12 .any (Rows.fnWorldStaysSpec.pre6 enc Try.prog Try.f12 Rows.fnWorldStaysRow.domain false) (Rows.fnWorldStaysSpec.post enc Try.prog Try.f12 false true false false) := by
  refine returnsInHanded_of_change (C := Try.checked) own_ started (by kernel_rfl) Try.func12
    (ChangeSpec.witness6 (enc := enc) (C := Try.checked) false ⟨#[], #[.slice none 0 0], []⟩ 8 (by kernel_rfl) (by kernel_rfl) (by kernel_rfl) (by kernel_rfl)) ?_
  intro W base args ds gs before hval0 hW hcnd _
  have hval : ∀ (j : Nat) t v, Try.f12.params[j]? = some t → args[j]? = some v → Value.okWide Try.prog W .any base t v := hval0
  have hW' := hW
  obtain ⟨p, q, hA0, hV, rfl, hfz, hnd⟩ := hW
  have hA : DataW.TrodAll enc Try.prog W 0 (fun _ => true) true Try.f12.params.toList args.toList ds p := hA0
  rw [Try.params12] at hA hval
  obtain ⟨v0, vs0, d0, ds0, p0, q0, hargs, rfl, rfl, h0, r0⟩ := trodAll_cons hA
  obtain ⟨rfl, rfl, rfl⟩ := trodAll_nil r0
  obtain rfl : args = #[v0] := by cases args; simp_all
  have w0 := open_u8s (hval 0 31 v0 rfl rfl) h0
  refine (walk W v0 w0).mono fun e W' ⟨he, hb⟩ => ?_
  subst he
  exact ⟨_, rfl, law_post laidOut (by kernel_rfl) rfl rfl Try.underlying4 (fun gs' h => by subst h; rfl) hW' hb⟩

theorem closed_ : joinedFacts Try.prog 12 Try.f12 Rows.fnWorldStaysSpec Rows.fnWorldStaysRow = true := by
  unfold joinedFacts
  rw [mayEnter_, liftsFinal_, make_, laidOut_, mapsRowed_, stopsHeard_]
  kernel_rfl

theorem proved : Rows.FnWorldStaysSaid :=
  OpenClaim.holds_of_wide 12 Try.f12 rfl rfl rfl rfl rfl rfl rfl ⟨rfl, rfl, rfl, rfl, rfl⟩ rfl rfl rfl rfl rfl (by kernel_rfl) Try.func12 closed_
    (of_decide_eq_true (by kernel_rfl)) (by unfold Func.isWrapper; first | (rw [if_pos (by decide +kernel)]; kernel_rfl) | (rw [if_neg (by decide +kernel)]; exact ⟨rfl, rfl⟩))
    (fun os started H enc _ => lifted os started H enc)
end Go.Proofs.Ytmamihkcikgmcaa.fnWorldStays
