/- Texts Dri, Dlv, Dpl, Dst in one. -/
import Derived.Test.YtiopbdodegopdaaDoorKC
import Derived.Test.YtiopbdodegopdaaDoorKG
import Derived.Test.YtiopbdodegopdaaDoorKI
import Derived.Test.YtiopbdodegopdaaDoorKJ
import Derived.Test.YtiopbdodegopdaaDoorKR
import Derived.Test.YtiopbdodegopdaaDoorKZ1
import Derived.Test.YtiopbdodegopdaaDoorKW
/- The draws of inputs and rows of inputs: l02Input, l02Row, l02Rows. -/
namespace Go.Proofs.YtiopbdodegopdaaDoor
open Go.RowKit

set_option maxHeartbeats 1000000 in
theorem input_ret {v : Value} {l : List Int} {g : Nat} {W0 : World} (w : World) (hd : Code8 W0 v l) (hc : Cur W0 w g v l.length) :
    Calls Tryd.prog 60 #[.pointer (some ⟨g, 0, none⟩)] w fun e w' => ∃ x : Int, e = .returned (.int .i64 x) ∧ (0 ≤ x ∧ x ≤ 15) ∧ Cur W0 w' g v l.length ∧ w.grownBy w' (some g) := by
  go_enter Tryd.func60, Tryd.ntmps60
  go_wp2_with fail
  refine (below_ret _ _ hd hc (by omega) (by omega)).mono ?_
  rintro e w1 ⟨x, rfl, hx0, hx1, hc1, hg1⟩
  go_wp2_with fail
  have hlit : Own (w1.alloc (.cells #[.int .i64 0, .int .i64 1, .int .i64 2, .int .i64 2, .int .i64 6, .int .i64 8, .int .i64 10, .int .i64 12, .int .i64 9, .int .i64 x] 3)) 0 1 (.slice (some ⟨w1.heap.size, 0, none⟩) 10 10) 10 ([0, 1, 2, 2, 6, 8, 10, 12, 9, x].map (Value.int .i64)) := Own.lit (n := 10) 3 rfl rfl (Nat.zero_le _) (by unfold maxLen; omega)
  have hc2 := hc1.below ((Below.refl _ _).alloc (Nat.le_refl _) (.cells #[.int .i64 0, .int .i64 1, .int .i64 2, .int .i64 2, .int .i64 6, .int .i64 8, .int .i64 10, .int .i64 12, .int .i64 9, .int .i64 x] 3))
  have hlt := hc1.lt
  refine (pickint_ret (ll := [0, 1, 2, 2, 6, 8, 10, 12, 9, x]) _ hd hc2 hlit (by simp [Value.ownBlock]; omega) (by show 1 ≤ 10; omega) (by show 10 ≤ 1000; omega)).mono ?_
  rintro e w3 ⟨y, rfl, hy, hc3, hg3⟩
  have hyb : 0 ≤ y ∧ y ≤ 15 := by
    simp only [List.mem_cons, List.not_mem_nil, or_false] at hy
    omega
  go_wp2_with fail
  go_ret
  exact ⟨y, rfl, hyb, hc3, grown_new (grown_new hg1 (World.grownBy_alloc w1 _ none) (fun i h => by cases h)) hg3 (fun i h _ => by simpa using h.symm)⟩
theorem grownN {w w' : World} (h : Below w.heap.size w w') : w.grownBy w' none := ⟨h.os, h.tape, h.output, h.size, fun i hi _ => h.block i hi⟩
/-- a row of inputs -/
def RowOk (n : Nat) (r : List Int) : Prop := r.length = n ∧ ∀ x ∈ r, 0 ≤ x ∧ x ≤ 15
set_option maxRecDepth 100000 in
set_option maxHeartbeats 4000000 in
theorem row_ret {v : Value} {l : List Int} {g : Nat} {W0 : World} (n : Nat) (w : World) (hd : Code8 W0 v l) (hc : Cur W0 w g v l.length) (hn : n ≤ 4) :
    Calls Tryd.prog 50 #[.pointer (some ⟨g, 0, none⟩), .int .i64 (n : Int)] w fun e w' => ∃ (rv : Value) (r : List Int), e = .returned rv ∧ RowOk n r ∧ Own w' w.heap.size 1 rv r.length (ints r) ∧ Cur W0 w' g v l.length ∧ w.grownBy w' (some g) := by
  go_enter Tryd.func50, Tryd.ntmps50
  go_wp2_with fail
  have hq := own_lit0 w
  have hg0 : w.grownBy (w.alloc (.cells #[] 3)) (some g) := (World.grownBy_alloc w _ _)
  have hc0 := hc.below ((Below.refl w.heap.size w).alloc (Nat.le_refl _) (.cells #[] 3))
  have hgl := hc.lt
  have hW0 := hc.bl.size
  generalize World.alloc w _ = w1 at hq hg0 hc0 ⊢
  clear hc
  go_loopw [5] (fun st wr => ∃ (rv : Value) (r : List Int), st = rv ∧ r.length ≤ n ∧ (∀ x ∈ r, 0 ≤ x ∧ x ≤ 15) ∧ Own wr w.heap.size 1 rv r.length (ints r) ∧ Cur W0 wr g v l.length ∧ w.grownBy wr (some g) ∧ ∃ (o : Option Addr) (c : Nat), rv = .slice o r.length c) (fun st _ => n - (match st with | .slice _ k _ => k | _ => 0))
  case atStart => exact ⟨_, [], rfl, Nat.zero_le _, (fun x h => by simp at h), hq, hc0, hg0, _, _, rfl⟩
  case round =>
    clear hq hc0 hg0
    obtain ⟨rv, r, rfl, hrn, hrx, hown, hc1, hg1, o, c, rfl⟩ := hrel
    by_cases hlt : r.length < n
    · have x1 : decide ((r.length : Int) < (n : Int)) = true := decide_eq_true (by omega)
      have hsz := hg1.size
      go_wp2_with fail
      refine (input_ret _ hd hc1).mono ?_
      rintro e w2 ⟨x, rfl, hx, hc2, hg2⟩
      have hownA := hown.kept hg2 (.inr (fun e => by have := (hown.ge _ e).1; omega))
      have hgA := grownBy_trans hg1 hg2
      have hsz2 := hg2.size
      clear hown hc1 hg1 hg2 x1
      have hl1 := own_lit1 w2 x
      have hownB := hownA.alloc (.cells #[.int .i64 x] 3)
      have hcB := hc2.below ((Below.refl w2.heap.size w2).alloc (Nat.le_refl _) (.cells #[.int .i64 x] 3))
      have hgB := grown_new hgA (World.grownBy_alloc w2 (.cells #[.int .i64 x] 3) none) (fun i h => by cases h)
      clear hownA hc2 hgA
      go_wp2_with (with_reducible refine app_ints (o := ⟨some 15, _, _, _, _, _⟩) _ rfl _ _ rfl w.heap.size hownB rfl hl1.at_ rfl (by omega) (by simp; omega) ?_)
      intro v' w3 hv hg hvb
      have hcC := hcB.grown hg (fun k hk => by have := (hownB.ge k hk).1; omega)
      have hgC := grown_new hgB hg (fun i hi h => by have := (hownB.ge i hi).1; omega)
      obtain ⟨vo, vc, rfl⟩ := hv.slice_
      have hle : (r ++ [x]).length = r.length + 1 := by simp
      have HL := Lib.hid hle
      have hrx2 : ∀ y ∈ r ++ [x], 0 ≤ y ∧ y ≤ 15 := fun y hy => by
        rcases List.mem_append.1 hy with h | h
        · exact hrx y h
        · rw [List.mem_singleton.1 h]; exact hx
      have hle2 : (r ++ [x]).length ≤ n := by omega
      have hlg : r.length < (r ++ [x]).length := by omega
      clear hownB hcB hgB hg hvb hl1 hrx hx hle
      generalize r ++ [x] = r2 at *
      go_wp2_with fail
      go_roundw
      case rel => exact ⟨_, r2, rfl, hle2, hrx2, by rw [HL.out]; first | exact hv | (rw [HL.out] at hv; exact hv), hcC, hgC, vo, vc, by rw [HL.out]⟩
      case measure => simp only; omega
    · have x1 : decide ((r.length : Int) < (n : Int)) = false := decide_eq_false (by omega)
      go_wp2_with fail
      go_ret
      exact ⟨_, r, rfl, ⟨by omega, hrx⟩, hown, hc1, hg1⟩
/-- rows that may share memory with one another, but not with the slice that holds them -/
structure OwnS2 (w : World) (B : Nat) (v : Value) (us : List Value) (L : List (List Int)) : Prop where
  o : Own w B 1 v us.length us
  n : us.length = L.length
  r : ∀ k, k < L.length → Own w B 1 (vAt us k) (lAt L k).length (ints (lAt L k))
  dv : ∀ i, i < L.length → Dj v (vAt us i)
theorem OwnS2.at_ {w : World} {B : Nat} {v : Value} {us : List Value} {L : List (List Int)} (h : OwnS2 w B v us L) : AtSS w v us L := ⟨h.o.at_, h.n, fun k hk => (h.r k hk).at_⟩
theorem OwnS2.keptB {w w' : World} {B g : Nat} {v : Value} {us : List Value} {L : List (List Int)} (h : OwnS2 w B v us L) (hg : w.grownBy w' (some g)) (hB : g < B) : OwnS2 w' B v us L :=
  ⟨h.o.kept hg (.inr (fun e => by have := (h.o.ge _ e).1; omega)), h.n, fun k hk => (h.r k hk).kept hg (.inr (fun e => by have := ((h.r k hk).ge _ e).1; omega)), h.dv⟩
theorem OwnS2.snoc {w w' : World} {B : Nat} {v v' x : Value} {us : List Value} {L : List (List Int)} {l : List Int} (h : OwnS2 w B v us L) (hx : Own w B 1 x l.length (ints l)) (hd : Dj v x)
    (ho : Own w' B 1 v' (us.length + 1) (us ++ [x])) (hg : w.grownBy w' v.ownBlock) (hv : v'.ownBlock = v.ownBlock ∨ ∃ g, v'.ownBlock = some g ∧ w.heap.size ≤ g) : OwnS2 w' B v' (us ++ [x]) (L ++ [l]) ∧ Own w' B 1 x l.length (ints l) ∧ Dj v' x := by
  have hn := h.n
  have hx' : Own w' B 1 x l.length (ints l) := hx.kept hg hd.symm
  have hold : ∀ y : Value, Dj v y → (∀ g, y.ownBlock = some g → g < w.heap.size) → Dj v' y := by
    intro y hy hlt
    rcases hv with hv | ⟨g, hv, hge⟩
    · unfold Dj at hy ⊢; rw [hv]; exact hy
    · exact dj_ge fun a b ha hb e => by rw [hv] at ha; have := hlt b hb; simp only [Option.some.injEq] at ha; omega
  have hdx := hold x hd fun g hg => (hx.ge g hg).2
  refine ⟨⟨by rw [List.length_append, List.length_singleton]; exact ho, by simp [hn], fun k hk => ?_, fun i hi => ?_⟩, hx', hdx⟩
  · rw [List.length_append, List.length_singleton] at hk
    by_cases e : k < L.length
    · rw [vAt_snoc (by omega), lAt_snoc e]; exact (h.r k e).kept hg (h.dv k e).symm
    · obtain rfl : k = us.length := by omega
      rw [vAt_last, hn, lAt_last]; exact hx'
  · rw [List.length_append, List.length_singleton] at hi
    by_cases e : i < L.length
    · rw [vAt_snoc (by omega)]
      exact hold _ (h.dv i e) fun g hg => ((h.r i e).ge g hg).2
    · obtain rfl : i = us.length := by omega
      rw [vAt_last]
      exact hdx
theorem OwnS2.lit0 (w : World) : OwnS2 (w.alloc (.cells #[] 37)) w.heap.size (.slice (some ⟨w.heap.size, 0, none⟩) 0 0) [] [] := ⟨Own.lit (n := 0) 37 rfl rfl (Nat.le_refl _) (by unfold maxLen; omega), rfl, fun _ h => absurd h (Nat.not_lt_zero _), fun _ h => absurd h (Nat.not_lt_zero _)⟩
structure RwI (W0 w wr : World) (g : Nat) (cv : Value) (cl n : Nat) (v : Value) (L : List (List Int)) : Prop where
  ex : ∃ us o c, v = .slice o L.length c ∧ OwnS2 wr w.heap.size v us L
  ok : ∀ r ∈ L, RowOk n r
  cur : Cur W0 wr g cv cl
  gr : w.grownBy wr (some g)
/-- .. while one row is appended -/
structure RwJ (W0 w wr : World) (g : Nat) (cv : Value) (cl n : Nat) (v : Value) (L : List (List Int)) (x : Value) (r : List Int) : Prop where
  ex : ∃ us o c, v = .slice o L.length c ∧ OwnS2 wr w.heap.size v us L
  ok : ∀ r ∈ L, RowOk n r
  cur : Cur W0 wr g cv cl
  gr : w.grownBy wr (some g)
  row : Own wr w.heap.size 1 x r.length (ints r)
  dj : Dj v x
  rok : RowOk n r
set_option maxRecDepth 100000 in
set_option maxHeartbeats 4000000 in
theorem rows_ret {v : Value} {l : List Int} {g : Nat} {W0 : World} (n : Nat) (w : World) (hd : Code8 W0 v l) (hc : Cur W0 w g v l.length) (hn : n ≤ 4) :
    Calls Tryd.prog 38 #[.pointer (some ⟨g, 0, none⟩), .int .i64 (n : Int), .int .i64 24] w fun e w' => ∃ (rv : Value) (us : List Value) (L : List (List Int)), e = .returned rv ∧ L.length ≤ 96 ∧ (∀ r ∈ L, RowOk n r) ∧ OwnS2 w' w.heap.size rv us L ∧ Cur W0 w' g v l.length ∧ w.grownBy w' (some g) := by
  go_enter Tryd.func38, Tryd.ntmps38
  go_upto_region 2 with (fail)
  have hq := OwnS2.lit0 w
  have hg0 : w.grownBy (w.alloc (.cells #[] 37)) (some g) := (World.grownBy_alloc w _ _)
  have hc0 := hc.below ((Below.refl w.heap.size w).alloc (Nat.le_refl _) (.cells #[] 37))
  have hgl := hc.lt
  have hW0 := hc.bl.size
  generalize World.alloc w _ = w1 at hq hg0 hc0 ⊢
  clear hc
  go_wp2_with fail
  refine (below_ret _ _ hd hc0 (by omega) (by omega)).mono ?_
  rintro e w2 ⟨K, rfl, hK0, hK1, hc2, hg2⟩
  have hI : RwI W0 w w2 g v l.length n (.slice (some ⟨w.heap.size, 0, none⟩) 0 0) [] := ⟨⟨_, _, _, rfl, hq.keptB hg2 hgl⟩, (fun r h => by simp at h), hc2, grownBy_trans hg0 hg2⟩
  clear hq hg0 hc0 hc2 hg2
  go_wp2_with fail
  go_loopw [7, 8, 9, 10] (fun st k _ _ wr => ∃ (L : List (List Int)) (q : Int), k = .int .i64 q ∧ 0 ≤ q ∧ q ≤ 23 ∧ (L.length : Int) + 4 * q ≤ 96 ∧ RwI W0 w wr g v l.length n st L) (fun _ k _ _ _ => (intOf k).toNat)
  case atStart => exact ⟨[], K, rfl, hK0, by omega, by simp; omega, hI⟩
  case round =>
    clear hI
    obtain ⟨L, q, rfl, hq0, hq1, hLq, hI⟩ := hrel
    by_cases hlt : 0 < q
    · have x1 : decide (0 < q) = true := decide_eq_true (by omega)
      obtain ⟨⟨us, o, c, rfl, hO⟩, hok, hcu, hgr⟩ := hI
      go_wp2_with fail
      refine (row_ret n _ hd hcu hn).mono ?_
      rintro e w3 ⟨x, r, rfl, hr, hx, hc3, hg3⟩
      obtain ⟨xo, xc, rfl⟩ := hx.slice_
      have hO3 := hO.keptB hg3 hgl
      have hgr3 := grownBy_trans hgr hg3
      have hs3 := hgr.size
      have hdx : Dj (.slice o L.length c) (.slice xo r.length xc) := dj_ge fun i j hi hj e => by have := (hO.o.ge i hi).2; have := (hx.ge j hj).1; omega
      have hx3 := hx.mono (base' := w.heap.size) hs3
      clear hO hcu hgr hg3 hx x1 hs3
      go_wp2_with fail
      refine (below_ret _ _ hd hc3 (by omega) (by omega)).mono ?_
      rintro e w4 ⟨i, rfl, hi0, hi1, hc4, hg4⟩
      have hJ : RwJ W0 w w4 g v l.length n (.slice o L.length c) L (.slice xo r.length xc) r := ⟨⟨_, _, _, rfl, hO3.keptB hg4 hgl⟩, hok, hc4, grownBy_trans hgr3 hg4, hx3.kept hg4 (.inr (fun e => by have := (hx3.ge _ e).1; omega)), hdx, hr⟩
      clear hO3 hok hc4 hg4 hgr3 hx3 hdx hr hc3
      go_wp2_with fail
      go_loopw [7, 10] (fun st i wr => ∃ (L : List (List Int)) (p : Int), i = .int .i64 p ∧ -1 ≤ p ∧ p ≤ 3 ∧ (L.length : Int) + (p + 1) + 4 * (q - 1) ≤ 96 ∧ RwJ W0 w wr g v l.length n st L (.slice xo r.length xc) r) (fun _ i _ => (intOf i + 1).toNat)
      case atStart => exact ⟨L, i, rfl, by omega, by omega, by omega, hJ⟩
      case round =>
        clear hJ
        obtain ⟨L2, p, rfl, hp0, hp1, hLp, hJ⟩ := hrel
        by_cases hpp : 0 ≤ p
        · have x1 : decide (0 ≤ p) = true := decide_eq_true hpp
          obtain ⟨⟨us, o2, c2, rfl, hO⟩, hok, hcu, hgr, hx, hdx, hr⟩ := hJ
          have ox := slice_one hx.at_
          have hsz := hgr.size
          have hus := hO.n
          have hoo := hO.o
          rw [hus] at hoo
          have hog := hO.o.ge
          clear x1
          have x1 : decide (0 ≤ p) = true := decide_eq_true hpp
          go_upto_region 9 with (fail)
          apply wp_region_lit
          iterate 9 go_step
          refine app_ss (o := ⟨some 31, _, _, _, _, _⟩) wr (.slice xo r.length xc) rfl rfl _ _ rfl w.heap.size hoo rfl wr.heap.size rfl rfl (by omega) hsz ?_
          intro v' w5 ho hg hvb
          have hs := hO.snoc hx hdx (by rw [hus]; exact ho) hg hvb
          obtain ⟨hO2, hx2, hd2⟩ := hs
          have hcu2 := hcu.grown hg (fun k hk => by have := (hog k hk).1; omega)
          have hgr2 := grown_new hgr hg (fun k hk h => by have := (hog k hk).1; omega)
          obtain ⟨vo, vc, rfl⟩ := ho.slice_
          have hle : (L2 ++ [r]).length = L2.length + 1 := by simp
          have hJ2 : RwJ W0 w w5 g v l.length n (.slice vo (L2.length + 1) vc) (L2 ++ [r]) (.slice xo r.length xc) r := ⟨⟨_, vo, vc, by rw [hle], hO2⟩, (fun y hy => by
            rcases List.mem_append.1 hy with h | h
            · exact hok y h
            · rw [List.mem_singleton.1 h]; exact hr), hcu2, hgr2, hx2, hd2, hr⟩
          have hle2 : ((L2 ++ [r]).length : Int) + (p - 1 + 1) + 4 * (q - 1) ≤ 96 := by rw [hle]; omega
          clear hO hok hcu hgr hx hdx hr ox hus hoo hog ho hg hvb hO2 hx2 hd2 hcu2 hgr2 hle x1
          generalize L2 ++ [r] = L3 at *
          go_wp2_with fail
          go_roundw
          case rel => exact ⟨L3, p - 1, by first | rfl | go_num, by omega, by omega, hle2, hJ2⟩
          case measure => simp only [intOf]; omega
        · have x1 : decide (0 ≤ p) = false := decide_eq_false hpp
          obtain ⟨hex, hok, hcu, hgr, _, _, _⟩ := hJ
          have hI2 : RwI W0 w wr g v l.length n _ L2 := ⟨hex, hok, hcu, hgr⟩
          clear hex hok hcu hgr
          go_wp2_with fail
          go_roundw
          case rel => exact ⟨L2, q - 1, by first | rfl | go_num, by omega, by omega, by omega, hI2⟩
          case measure => simp only [intOf]; omega
    · have x1 : decide (0 < q) = false := decide_eq_false hlt
      obtain ⟨⟨us, o, c, rfl, hO⟩, hok, hcu, hgr⟩ := hI
      go_wp2_with fail
      go_ret
      exact ⟨_, rfl, us, L, by omega, hok, hO, hcu, hgr⟩
end Go.Proofs.YtiopbdodegopdaaDoor
/- The draw of a level. -/
namespace Go.Proofs.YtiopbdodegopdaaDoor
open Go.RowKit

set_option maxRecDepth 100000 in
set_option maxHeartbeats 4000000 in
theorem levels_ret (w : World) :
    Calls Tryd.prog 46 #[] w fun e w' => e = .returned (.slice (some ⟨w.heap.size, 0, none⟩) 5 5) ∧ (∀ k, k < 5 → w'.cell? ⟨w.heap.size, k, none⟩ = some (.string (lvStr k))) ∧ Below w.heap.size w w' := by
  go_enter Tryd.func46, Tryd.ntmps46
  go_wp2_with fail
  go_ret
  refine ⟨rfl, fun k hk => ?_, (Below.refl _ _).alloc (Nat.le_refl _) _⟩
  rw [World.cell?_alloc_new]
  rcases (show k = 0 ∨ k = 1 ∨ k = 2 ∨ k = 3 ∨ k = 4 by omega) with rfl | rfl | rfl | rfl | rfl <;> rfl
set_option maxRecDepth 100000 in
set_option maxHeartbeats 4000000 in
theorem level_ret {v : Value} {l : List Int} {g : Nat} {W0 : World} (w : World) (hd : Code8 W0 v l) (hc : Cur W0 w g v l.length) :
    Calls Tryd.prog 36 #[.pointer (some ⟨g, 0, none⟩)] w fun e w' => ∃ (x : Value) (r : List ByteArray), e = .returned (.agg #[x]) ∧ r ∈ lvQ ∧ Own w' w.heap.size 1 x r.length (r.map Value.string) ∧ Cur W0 w' g v l.length ∧ w.grownBy w' (some g) := by
  go_enter Tryd.func36, Tryd.ntmps36
  go_upto_region 1 with (fail)
  have hg0 : w.grownBy (w.alloc (.cells #[nilV] 31)) (some g) := World.grownBy_alloc w _ _
  have hc0 := hc.below ((Below.refl w.heap.size w).alloc (Nat.le_refl _) (.cells #[nilV] 31))
  have c0 : (w.alloc (.cells #[nilV] 31)).cell? ⟨w.heap.size, 0, none⟩ = some nilV := World.cell?_alloc_new _ _ _ 0
  have f0 : (w.alloc (.cells #[nilV] 31)).frozen? ⟨w.heap.size, 0, none⟩ = false := World.frozen?_alloc_new _ _ _ 0
  have hgl := hc.lt
  have hW0 := hc.bl.size
  have hs1 : w.heap.size < (w.alloc (.cells #[nilV] 31)).heap.size := by simp
  change Code.wp _ _ _ _ (w.alloc (.cells #[nilV] 31))
  generalize World.alloc w _ = w1 at hg0 hc0 c0 f0 hs1 ⊢
  clear hc
  go_wp2_with fail
  refine (levels_ret w1).mono ?_
  rintro e w2 ⟨rfl, hcell, hk⟩
  have hg2 := grown_new hg0 (grownN hk) (fun i h => by cases h)
  have hc2 := hc0.below hk
  have d0 := (hk.cell (p := ⟨w.heap.size, 0, none⟩) hs1).trans c0
  have e0 := (hk.frozen (p := ⟨w.heap.size, 0, none⟩) hs1).trans f0
  have hs2 : w1.heap.size < w2.heap.size := World.block_lt_of_cell? w2 ⟨w1.heap.size, 0, none⟩ (hcell 0 (by omega))
  clear hg0 hc0 c0 f0 hk
  go_wp2_with fail
  refine (below_ret _ _ hd hc2 (by omega) (by omega)).mono ?_
  rintro e w3 ⟨q, rfl, hq0, hq1, hc3, hg3⟩
  obtain ⟨k, rfl⟩ := Int.eq_ofNat_of_zero_le hq0
  have ck : w3.cell? ⟨w1.heap.size, k, none⟩ = some (.string (lvStr k)) := World.grownBy.cell hg3 (hcell k (by omega)) (by simp only [ne_eq, Option.some.injEq]; omega)
  have d3 := World.grownBy.cell hg3 d0 (by simp only [ne_eq, Option.some.injEq]; omega)
  have e3 : w3.frozen? ⟨w.heap.size, 0, none⟩ = false := (World.frozen?_of_block (a := ⟨w.heap.size, 0, none⟩) (hg3.block w.heap.size (by omega) (by simp only [ne_eq, Option.some.injEq]; omega))).trans e0
  have hgA := grownBy_trans hg2 hg3
  have hs3 := hg3.size
  clear hg2 hc2 d0 e0 hcell hg3
  have hz := lvStr_sz k
  have HP := Lib.hid (lvStr_par k)
  have hmem := lvStr_rows k
  generalize lvStr k = t at *
  go_wp2_with fail
  refine (parse_spec t _ (by omega)).mono ?_
  rintro e w4 ⟨u, rfl, hu, hk⟩
  rw [HP.out] at hu ⊢
  generalize rowsL t = r at *
  have hgB := grown_new hgA (grownN hk) (fun i h => by cases h)
  have hc4 := hc3.below hk
  have d4 := (hk.cell (p := ⟨w.heap.size, 0, none⟩) (by show w.heap.size < _; omega)).trans d3
  have e4 := (hk.frozen (p := ⟨w.heap.size, 0, none⟩) (by show w.heap.size < _; omega)).trans e3
  have hs4 := hk.size
  simp only at hu
  obtain ⟨uo, uc, rfl⟩ := hu.slice_
  clear hgA hc3 d3 e3 hk ck
  go_upto_region 2 with (fail)
  have hk5 : Below w4.heap.size w4 (w4.alloc (.cells #[.slice uo r.length uc] 31)) := (Below.refl _ _).alloc (Nat.le_refl _) _
  have c5 : (w4.alloc (.cells #[.slice uo r.length uc] 31)).cell? ⟨w4.heap.size, 0, none⟩ = some (.slice uo r.length uc) := World.cell?_alloc_new _ _ _ 0
  generalize World.alloc w4 _ = w5 at hk5 c5 ⊢
  have d5 := (hk5.cell (p := ⟨w.heap.size, 0, none⟩) (by show w.heap.size < _; omega)).trans d4
  have e5 := (hk5.frozen (p := ⟨w.heap.size, 0, none⟩) (by show w.heap.size < _; omega)).trans e4
  have hu5 := hu.belowS hk5
  have hc5 := hc4.below hk5
  have hgC := grown_new hgB (grownN hk5) (fun i h => by cases h)
  have hs5 := hk5.size
  clear hu hc4 hgB hk5 d4 e4
  obtain ⟨wn, hwn⟩ : ∃ wn, wn = w5.setCell ⟨w.heap.size, 0, none⟩ (.slice uo r.length uc) := ⟨_, rfl⟩
  have r0 : wn.cell? ⟨w.heap.size, 0, none⟩ = some (.slice uo r.length uc) := by rw [hwn]; exact World.cell?_setCell_same' _ _ _ (by rw [d5]; rfl)
  have hgs : w5.grownBy wn (some w.heap.size) := by rw [hwn]; exact setCells_grown w5 w.heap.size 0 [.slice uo r.length uc]
  have hun : Own wn w.heap.size 1 (.slice uo r.length uc) r.length (r.map Value.string) := (hu5.kept hgs (.inr (fun e => by have := (hu5.ge _ e).1; omega))).mono (by omega)
  have hcn := hc5.grown hgs (fun k hk => by simp only [Option.some.injEq] at hk; omega)
  have hgn := grown_new hgC hgs (fun i hi h => by simp only [Option.some.injEq] at hi; omega)
  have HWN := Lib.hid hwn; clear hwn hu5 hc5 hgC hgs
  go_wp2_with fail
  rw [← HWN.out]
  (try simp only [Exit.inBlock, Exit.then])
  refine bodyPost_ret (by simp [results, Tryd.results36, go_sem, r0]; try rfl) rfl ?_
  exact ⟨_, r, rfl, hmem, hun, hcn, hgn⟩
end Go.Proofs.YtiopbdodegopdaaDoor
/- DrawPlay: a new world on a drawn level, and rows of inputs. -/
namespace Go.Proofs.YtiopbdodegopdaaDoor
open Go.RowKit

section
variable {ops : Array Oper} {rest : List Oper} {o : Oper} {a : Act} {w : World} {Q : Exit → Act → World → Prop}
theorem still_wldM (x : Operand) (ho : o.op = .load 40 x) (g : Nat) (hx : a.eval x = .pointer (some ⟨g, 0, none⟩)) (u : Value) (tk sd : Int) (us ub : Value) (hc : w.rangeAt g 0 (wcells u tk sd us ub)) : (execOp a.eval o).run Tryd.prog w = .ok (.value (.agg #[u, .int .i64 tk, .int .i64 sd, us, ub])) w := by
  unfold execOp
  simp only [ho, hx, Instr.loadAt, Instr.sureAddr, Sem.run_bind, Sem.run_pure, Result.andThen_ok, run_loadVar_mid w g 0 _ (wcells u tk sd us ub) _ hc Tryd.underlying40 rfl (by rw [size_wld]; rfl)]
  rfl
theorem res_wldV {fn : Func} {t1 t2 : Tmp} {tmps : Array Value} {w : World} {g : Nat} {u us ub v2 : Value} {tk sd : Int} (hr : fn.results = #[.cell t1 40, .tmp t2]) (h1 : tmps.getD t1 undef = .pointer (some ⟨g, 0, none⟩)) (h2 : tmps.getD t2 undef = v2)
    (hc : w.rangeAt g 0 (wcells u tk sd us ub)) : (results fn tmps).run Tryd.prog w = .ok (.tuple #[.agg #[u, .int .i64 tk, .int .i64 sd, us, ub], v2]) w := by
  have hl := run_loadVar_mid w g 0 40 (wcells u tk sd us ub) _ hc Tryd.underlying40 rfl (by rw [size_wld]; rfl)
  have h1' : tmps[t1]?.getD undef = .pointer (some ⟨g, 0, none⟩) := by simpa using h1
  have h2' : tmps[t2]?.getD undef = v2 := by simpa using h2
  simp [results, hr, h1', h2', hl, asAddr, wcells]
end
theorem Code8.below {w w' : World} {v : Value} {l : List Int} (h : Code8 w v l) (hb : Below w.heap.size w w') : Code8 w' v l := ⟨h.hat.below hb, h.hwf, h.hm⟩
/-- a world in a variable, beside the cursor -/
structure DpI (w1 wr : World) (g : Nat) (cv : Value) (cl : Nat) (X : Wd) (p : Value) : Prop where
  ex : ∃ G x xs xb, p = .pointer (some ⟨G, 0, none⟩) ∧ Hd wr w1.heap.size G x xs xb X ∧ ∀ i, blkH G x xs xb i → g < i
  cur : Cur w1 wr g cv cl
/-- what DrawPlay draws -/
structure Drawn0 (X : Wd) (L : List (List Int)) (r : List ByteArray) (n : Nat) (s : Int) : Prop where
  lv : r ∈ lvQ
  n1 : 1 ≤ n ∧ n ≤ 4
  sd : 0 ≤ s ∧ s ≤ 65535
  w : X = newW r n s
  ll : L.length ≤ 96
  ok : ∀ q ∈ L, RowOk n q
set_option maxRecDepth 100000 in
set_option maxHeartbeats 8000000 in
theorem play_ret {v : Value} {l : List Int} (w : World) (hd : Code8 w v l) :
    Calls Tryd.prog 17 #[v] w fun e w' => ∃ (x xs xb rv : Value) (us : List Value) (X : Wd) (L : List (List Int)) (r : List ByteArray) (n : Nat) (s : Int), e = .returned (.tuple #[.agg #[x, .int .i64 X.tick, .int .i64 X.seed, xs, xb], rv]) ∧ Drawn0 X L r n s ∧ WOwn w' w.heap.size x xs xb X ∧ AtSS w' rv us L ∧ Below w.heap.size w w' := by
  go_enter Tryd.func17, Tryd.ntmps17
  go_upto_region 1 with (fail)
  have hb1 : Below w.heap.size w (w.alloc (.cells #[nilV, .int .i64 0, .int .i64 0, nilV, nilV] 40)) := (Below.refl _ _).alloc (Nat.le_refl _) _
  have hR1 := WBlk.new w 40 nilV 0 0 nilV nilV
  change Code.wp _ _ _ _ (w.alloc (.cells #[nilV, .int .i64 0, .int .i64 0, nilV, nilV] 40))
  generalize World.alloc w _ = w1 at hb1 hR1 ⊢
  have hd1 := hd.below hb1
  have hwl := hR1.lt
  clear hd
  go_wp2_with fail
  refine (new_ret w1 hd1).mono ?_
  rintro e w2 ⟨g, rfl, hc2⟩
  go_wp2_with fail
  refine (level_ret w2 hd1 hc2).mono ?_
  rintro e w3 ⟨u, r, rfl, hmem, hu, hc3, hg3⟩
  have hug : ∀ i, u.ownBlock = some i → g < i := fun i hi => by have := (hu.ge i hi).1; have := hc2.lt; omega
  obtain ⟨uo, uc, rfl⟩ := hu.slice_
  clear hc2 hg3
  go_upto_region 3 with (fail)
  have hk4 : Below w3.heap.size w3 (w3.alloc (.cells #[.slice uo r.length uc] 31)) := (Below.refl _ _).alloc (Nat.le_refl _) _
  have c4 : (w3.alloc (.cells #[.slice uo r.length uc] 31)).cell? ⟨w3.heap.size, 0, none⟩ = some (.slice uo r.length uc) := World.cell?_alloc_new _ _ _ 0
  have hg3 := hc3.lt
  generalize World.alloc w3 _ = w4 at hk4 c4 ⊢
  have hc4 := hc3.below hk4
  have hu4 := hu.belowS hk4
  have hz3 : w3.heap.size < w4.heap.size := World.block_lt_of_cell? w4 ⟨w3.heap.size, 0, none⟩ c4
  have hw14 := hc4.bl.size
  clear hk4 hu hc3
  generalize w3.heap.size = p5 at *
  go_wp2_with fail
  refine (below_ret _ _ hd1 hc4 (by omega) (by omega)).mono ?_
  rintro e w5 ⟨n0, rfl, hn0, hn1, hc5, hg5⟩
  have hu5 := hu4.kept hg5 (.inr (fun e => by have := hug _ e; omega))
  have c5 := World.grownBy.cell hg5 c4 (by simp only [ne_eq, Option.some.injEq]; omega)
  have hz5 := hg5.size
  clear hu4 c4 hc4 hg5
  go_upto_region 4 with (fail)
  obtain ⟨m, hm⟩ : ∃ m : Nat, 1 + n0 = (m : Int) := ⟨(1 + n0).toNat, by omega⟩
  rw [hm]
  have hmb : 1 ≤ m ∧ m ≤ 4 := by omega
  clear hm hn0 hn1
  have hlv := lvQ_ok _ hmem
  obtain ⟨hl12, hl20⟩ := lv_sizes hlv
  have HNW : ∀ (s : Int) (wx : World), 0 ≤ s → s ≤ 65535 → At wx 1 (.slice uo r.length uc) r.length (r.map Value.string) → Calls Tryd.prog 37 #[.agg #[.slice uo r.length uc], .int .i64 (m : Int), .int .i64 s] wx fun e w' => ∃ x xs xb, e = .returned (.tuple #[.agg #[x, .int .i64 (newW r m s).tick, .int .i64 (newW r m s).seed, xs, xb], .bool true]) ∧ WOwn w' wx.heap.size x xs xb (newW r m s) ∧ Below wx.heap.size wx w' := fun s wx h0 h1 hx => by
    have h := newworld_spec (m : Int) s wx hx (by omega) (fun t ht => by have := hl20 t ht; omega)
    rw [newT_yes hlv (by omega) ⟨h0, h1⟩, Int.toNat_natCast] at h
    exact h
  clear hl12 hl20
  have c5d : w5.drew.cell? ⟨p5, 0, none⟩ = some (.slice uo r.length uc) := c5
  have hc5d : Cur w1 w5.drew g v l.length := hc5.drewN 1
  have hu5d := hu5.drew
  have hz5d : w4.heap.size ≤ w5.drew.heap.size := hz5
  go_cut [7, 8] (fun p q wx => q = .bool true ∧ ∃ s, (0 ≤ s ∧ s ≤ 65535) ∧ DpI w1 wx g v l.length (newW r m s) p)
  case first =>
    refine wp_region_sch (fun wx => wx.cell? ⟨p5, 0, none⟩ = some (.slice uo r.length uc)) 10 6 (.st 0 (.st 1 (.st 2 (.two 3 (.two 4 (.st 5 (.st 6 (.st 7 (.ef 8 (.ef 9 (.fin [10])))))) 8 (.ef 4 (.st 5 (.st 6 (.st 7 (.ef 9 (.fin [10]))))))) 8 (.ef 3 (.ef 4 (.st 5 (.st 6 (.st 7 (.ef 9 (.fin [10]))))))))))) (by kernel_rfl) (by kernel_rfl) (fun _ _ d _ _ h => by cases d <;> exact h) c5d ?_
    refine sch_still (o := ⟨some 17, _, _, _, _, _⟩) (v := .agg #[.slice uo r.length uc]) rfl rfl ?_ ?_
    · intro wx hSx
      go_simp
    simp only [Act.put, List.setIfInBounds_toArray, List.set_cons_zero, List.set_cons_succ]
    refine sch_still (o := ⟨some 18, _, _, _, _, _⟩) (v := .int .i64 (m : Int)) rfl rfl ?_ ?_
    · intro wx hSx
      go_simp
    simp only [Act.put, List.setIfInBounds_toArray, List.set_cons_zero, List.set_cons_succ]
    refine sch_still (o := ⟨some 19, _, _, _, _, _⟩) (v := .pointer (some ⟨g, 0, none⟩)) rfl rfl ?_ ?_
    · intro wx hSx
      go_simp
    simp only [Act.put, List.setIfInBounds_toArray, List.set_cons_zero, List.set_cons_succ]
    generalize w5.drew = wq at *
    refine sch_2 (o := ⟨some 20, _, _, _, _, _⟩) (p := ⟨some 7, _, _, _, _, _⟩) rfl rfl ?_ ?_
    · refine wpList_callC rfl 26 _ _ rfl Tryd.func26 (by kernel_rfl) (by kernel_rfl) #[.pointer (some ⟨g, 0, none⟩), .int .i64 65536] (by kernel_rfl) (below_ret _ _ hd1 hc5d (by omega) (by omega)) ?_
      rintro e wb1 ⟨s, rfl, hs0, hs1, hcu1, hgr1⟩
      refine ⟨_, rfl, ?_⟩
      have hc1 := World.grownBy.cell hgr1 c5d (by simp only [ne_eq, Option.some.injEq]; omega)
      have huu1 := hu5d.kept hgr1 (.inr (fun e => by have := hug _ e; omega))
      have hzz1 : w4.heap.size ≤ wb1.heap.size := Nat.le_trans hz5d hgr1.size
      refine sch_next hc1 ?_
      simp only [Act.put, List.setIfInBounds_toArray, List.set_cons_zero, List.set_cons_succ]
      refine sch_2 (o := ⟨some 21, _, _, _, _, _⟩) (p := ⟨some 7, _, _, _, _, _⟩) rfl rfl ?_ ?_
      · refine wpList_callC rfl 37 _ _ rfl Tryd.func37 (by kernel_rfl) (by kernel_rfl) #[.agg #[.slice uo r.length uc], .int .i64 (m : Int), .int .i64 s] (by kernel_rfl) (HNW s _ hs0 (by omega) huu1.at_) ?_
        rintro e ww2 ⟨x, xs, xb, rfl, hO, hk⟩
        refine ⟨_, rfl, ?_⟩
        have hOl : ∀ i, blkW x xs xb i → wb1.heap.size ≤ i ∧ i < ww2.heap.size := hO.ge
        have hc2 := (hk.cell (p := ⟨p5, 0, none⟩) (by show p5 < _; omega)).trans hc1
        have hcu2 := hcu1.below hk
        have hzz2 : w4.heap.size ≤ ww2.heap.size := Nat.le_trans hzz1 hk.size
        have hsz2 := hk.size
        clear hk
        refine sch_next hc2 ?_
        simp only [Act.put, List.setIfInBounds_toArray, List.set_cons_zero, List.set_cons_succ]
        refine sch_still (o := ⟨some 16, _, _, _, _, _⟩) (v := .tuple #[.agg #[x, .int .i64 (newW r m s).tick, .int .i64 (newW r m s).seed, xs, xb], .bool true]) rfl rfl ?_ ?_
        · intro wx hSx
          go_simp
        simp only [Act.put, List.setIfInBounds_toArray, List.set_cons_zero, List.set_cons_succ]
        refine sch_still (o := ⟨some 22, _, _, _, _, _⟩) (v := .agg #[x, .int .i64 (newW r m s).tick, .int .i64 (newW r m s).seed, xs, xb]) rfl rfl ?_ ?_
        · intro wx hSx
          go_simp
        simp only [Act.put, List.setIfInBounds_toArray, List.set_cons_zero, List.set_cons_succ]
        refine sch_still (o := ⟨some 23, _, _, _, _, _⟩) (v := .bool true) rfl rfl ?_ ?_
        · intro wx hSx
          go_simp
        simp only [Act.put, List.setIfInBounds_toArray, List.set_cons_zero, List.set_cons_succ]
        refine sch_ef (o := ⟨some 7, _, _, _, _, _⟩) rfl ?_
        refine alloc_wld rfl rfl ?_
        have hG := WBlk.new ww2 40 nilV 0 0 nilV nilV
        have hk : Below ww2.heap.size ww2 (ww2.alloc (.cells #[nilV, .int .i64 0, .int .i64 0, nilV, nilV] 40)) := (Below.refl _ _).alloc (Nat.le_refl _) _
        generalize World.alloc ww2 _ = wa3 at hG hk ⊢
        have hGl := hG.lt
        have hc3 := (hk.cell (p := ⟨p5, 0, none⟩) (by show p5 < _; omega)).trans hc2
        have hcu3 := hcu2.below hk
        have hzz3 : w4.heap.size ≤ wa3.heap.size := Nat.le_trans hzz2 hk.size
        replace hO := hO.below hk
        clear hk
        refine sch_next hc3 ?_
        simp only [Act.put, List.setIfInBounds_toArray, List.set_cons_zero, List.set_cons_succ]
        refine sch_ef (o := ⟨none, _, _, _, _, _⟩) rfl ?_
        have ox := slice_one hO.at_.r
        have oxs := slice_one hO.at_.s
        have oxb := slice_one hO.at_.b
        have hcl := hcu3.lt
        refine store_wld (op := ⟨none, _, _, _, _, _⟩) rfl _ _ rfl (ww2.heap.size) rfl x (newW r m s).tick (newW r m s).seed xs xb rfl hG.there ox oxs oxb ?_
        have hq := And.intro (hG.setAll (u' := x) (us' := xs) (ub' := xb) (tk' := (newW r m s).tick) (sd' := (newW r m s).seed)) (setCells_grown wa3 (ww2.heap.size) 0 (wcells x (newW r m s).tick (newW r m s).seed xs xb))
        generalize World.setCells wa3 _ _ _ = wn at hq
        obtain ⟨hGn, hgn⟩ := hq
        have hge1 := hc5d.bl.size
        have hOn := (hO.tch (S := fun i => i = ww2.heap.size) (Tch.of_grown1 hgn rfl) (fun i hi e => by have := hOl i hi; omega)).mono (B' := w1.heap.size) (by omega)
        have hcn := hcu3.grown hgn (fun k hk => by simp only [Option.some.injEq] at hk; omega)
        have ccn := World.grownBy.cell hgn hc3 (by simp only [ne_eq, Option.some.injEq]; omega)
        have hH : Hd wn w1.heap.size (ww2.heap.size) x xs xb (newW r m s) := ⟨hGn, hOn, (fun e => by have := hOl _ (.inl e); omega), (fun e => by have := hOl _ (.inr (.inl e)); omega), (fun e => by have := hOl _ (.inr (.inr e)); omega), by omega⟩
        have hgi : ∀ i, blkH (ww2.heap.size) x xs xb i → g < i := fun i hi => by rcases hi with rfl | hi; (· omega); (· have := hOl i hi; omega)
        refine sch_next ccn ?_
        simp only [Act.put]
        refine sch_end (.cons (o := ⟨some 8, _, _, _, _, _⟩) rfl .nil) ?_
        clear hG hO hGn hgn hOn
        go_wp2_with fail
        go_meet
        case rel => exact ⟨rfl, s, ⟨hs0, by omega⟩, ⟨⟨_, _, _, _, rfl, hH, hgi⟩, hcn⟩⟩
      · refine alloc_wld rfl rfl ?_
        have hG := WBlk.new wb1 40 nilV 0 0 nilV nilV
        have hk : Below wb1.heap.size wb1 (wb1.alloc (.cells #[nilV, .int .i64 0, .int .i64 0, nilV, nilV] 40)) := (Below.refl _ _).alloc (Nat.le_refl _) _
        generalize World.alloc wb1 _ = wa2 at hG hk ⊢
        have hGl := hG.lt
        have hc2 := (hk.cell (p := ⟨p5, 0, none⟩) (by show p5 < _; omega)).trans hc1
        have hcu2 := hcu1.below hk
        have hzz2 : w4.heap.size ≤ wa2.heap.size := Nat.le_trans hzz1 hk.size
        have huu2 := huu1.belowS hk
        clear hk
        refine sch_next hc2 ?_
        simp only [Act.put, List.setIfInBounds_toArray, List.set_cons_zero, List.set_cons_succ]
        refine sch_ef (o := ⟨some 21, _, _, _, _, _⟩) rfl ?_
        refine wpList_callC rfl 37 _ _ rfl Tryd.func37 (by kernel_rfl) (by kernel_rfl) #[.agg #[.slice uo r.length uc], .int .i64 (m : Int), .int .i64 s] (by kernel_rfl) (HNW s _ hs0 (by omega) huu2.at_) ?_
        rintro e ww3 ⟨x, xs, xb, rfl, hO, hk⟩
        refine ⟨_, rfl, ?_⟩
        have hOl : ∀ i, blkW x xs xb i → wa2.heap.size ≤ i ∧ i < ww3.heap.size := hO.ge
        have hc3 := (hk.cell (p := ⟨p5, 0, none⟩) (by show p5 < _; omega)).trans hc2
        have hcu3 := hcu2.below hk
        have hzz3 : w4.heap.size ≤ ww3.heap.size := Nat.le_trans hzz2 hk.size
        have hsz3 := hk.size
        replace hG := hG.below hk hG.lt
        clear hk
        refine sch_next hc3 ?_
        simp only [Act.put, List.setIfInBounds_toArray, List.set_cons_zero, List.set_cons_succ]
        refine sch_still (o := ⟨some 16, _, _, _, _, _⟩) (v := .tuple #[.agg #[x, .int .i64 (newW r m s).tick, .int .i64 (newW r m s).seed, xs, xb], .bool true]) rfl rfl ?_ ?_
        · intro wx hSx
          go_simp
        simp only [Act.put, List.setIfInBounds_toArray, List.set_cons_zero, List.set_cons_succ]
        refine sch_still (o := ⟨some 22, _, _, _, _, _⟩) (v := .agg #[x, .int .i64 (newW r m s).tick, .int .i64 (newW r m s).seed, xs, xb]) rfl rfl ?_ ?_
        · intro wx hSx
          go_simp
        simp only [Act.put, List.setIfInBounds_toArray, List.set_cons_zero, List.set_cons_succ]
        refine sch_still (o := ⟨some 23, _, _, _, _, _⟩) (v := .bool true) rfl rfl ?_ ?_
        · intro wx hSx
          go_simp
        simp only [Act.put, List.setIfInBounds_toArray, List.set_cons_zero, List.set_cons_succ]
        refine sch_ef (o := ⟨none, _, _, _, _, _⟩) rfl ?_
        have ox := slice_one hO.at_.r
        have oxs := slice_one hO.at_.s
        have oxb := slice_one hO.at_.b
        have hcl := hcu3.lt
        refine store_wld (op := ⟨none, _, _, _, _, _⟩) rfl _ _ rfl (wb1.heap.size) rfl x (newW r m s).tick (newW r m s).seed xs xb rfl hG.there ox oxs oxb ?_
        have hq := And.intro (hG.setAll (u' := x) (us' := xs) (ub' := xb) (tk' := (newW r m s).tick) (sd' := (newW r m s).seed)) (setCells_grown ww3 (wb1.heap.size) 0 (wcells x (newW r m s).tick (newW r m s).seed xs xb))
        generalize World.setCells ww3 _ _ _ = wn at hq
        obtain ⟨hGn, hgn⟩ := hq
        have hge1 := hc5d.bl.size
        have hOn := (hO.tch (S := fun i => i = wb1.heap.size) (Tch.of_grown1 hgn rfl) (fun i hi e => by have := hOl i hi; omega)).mono (B' := w1.heap.size) (by omega)
        have hcn := hcu3.grown hgn (fun k hk => by simp only [Option.some.injEq] at hk; omega)
        have ccn := World.grownBy.cell hgn hc3 (by simp only [ne_eq, Option.some.injEq]; omega)
        have hH : Hd wn w1.heap.size (wb1.heap.size) x xs xb (newW r m s) := ⟨hGn, hOn, (fun e => by have := hOl _ (.inl e); omega), (fun e => by have := hOl _ (.inr (.inl e)); omega), (fun e => by have := hOl _ (.inr (.inr e)); omega), by omega⟩
        have hgi : ∀ i, blkH (wb1.heap.size) x xs xb i → g < i := fun i hi => by rcases hi with rfl | hi; (· omega); (· have := hOl i hi; omega)
        refine sch_next ccn ?_
        simp only [Act.put]
        refine sch_end (.cons (o := ⟨some 8, _, _, _, _, _⟩) rfl .nil) ?_
        clear hG hO hGn hgn hOn
        go_wp2_with fail
        go_meet
        case rel => exact ⟨rfl, s, ⟨hs0, by omega⟩, ⟨⟨_, _, _, _, rfl, hH, hgi⟩, hcn⟩⟩
    · refine alloc_wld rfl rfl ?_
      have hG := WBlk.new wq 40 nilV 0 0 nilV nilV
      have hk : Below wq.heap.size wq (wq.alloc (.cells #[nilV, .int .i64 0, .int .i64 0, nilV, nilV] 40)) := (Below.refl _ _).alloc (Nat.le_refl _) _
      generalize World.alloc wq _ = wa1 at hG hk ⊢
      have hGl := hG.lt
      have hc1 := (hk.cell (p := ⟨p5, 0, none⟩) (by show p5 < _; omega)).trans c5d
      have hcu1 := hc5d.below hk
      have hzz1 : w4.heap.size ≤ wa1.heap.size := Nat.le_trans hz5d hk.size
      have huu1 := hu5d.belowS hk
      clear hk
      refine sch_next hc1 ?_
      simp only [Act.put, List.setIfInBounds_toArray, List.set_cons_zero, List.set_cons_succ]
      refine sch_ef (o := ⟨some 20, _, _, _, _, _⟩) rfl ?_
      refine wpList_callC rfl 26 _ _ rfl Tryd.func26 (by kernel_rfl) (by kernel_rfl) #[.pointer (some ⟨g, 0, none⟩), .int .i64 65536] (by kernel_rfl) (below_ret _ _ hd1 hcu1 (by omega) (by omega)) ?_
      rintro e wb2 ⟨s, rfl, hs0, hs1, hcu2, hgr2⟩
      refine ⟨_, rfl, ?_⟩
      have hc2 := World.grownBy.cell hgr2 hc1 (by simp only [ne_eq, Option.some.injEq]; omega)
      have huu2 := huu1.kept hgr2 (.inr (fun e => by have := hug _ e; omega))
      have hzz2 : w4.heap.size ≤ wb2.heap.size := Nat.le_trans hzz1 hgr2.size
      replace hG := hG.grown hgr2 (by simp only [ne_eq, Option.some.injEq]; omega)
      have hsz2 := hgr2.size
      refine sch_next hc2 ?_
      simp only [Act.put, List.setIfInBounds_toArray, List.set_cons_zero, List.set_cons_succ]
      refine sch_ef (o := ⟨some 21, _, _, _, _, _⟩) rfl ?_
      refine wpList_callC rfl 37 _ _ rfl Tryd.func37 (by kernel_rfl) (by kernel_rfl) #[.agg #[.slice uo r.length uc], .int .i64 (m : Int), .int .i64 s] (by kernel_rfl) (HNW s _ hs0 (by omega) huu2.at_) ?_
      rintro e ww3 ⟨x, xs, xb, rfl, hO, hk⟩
      refine ⟨_, rfl, ?_⟩
      have hOl : ∀ i, blkW x xs xb i → wb2.heap.size ≤ i ∧ i < ww3.heap.size := hO.ge
      have hc3 := (hk.cell (p := ⟨p5, 0, none⟩) (by show p5 < _; omega)).trans hc2
      have hcu3 := hcu2.below hk
      have hzz3 : w4.heap.size ≤ ww3.heap.size := Nat.le_trans hzz2 hk.size
      have hsz3 := hk.size
      replace hG := hG.below hk hG.lt
      clear hk
      refine sch_next hc3 ?_
      simp only [Act.put, List.setIfInBounds_toArray, List.set_cons_zero, List.set_cons_succ]
      refine sch_still (o := ⟨some 16, _, _, _, _, _⟩) (v := .tuple #[.agg #[x, .int .i64 (newW r m s).tick, .int .i64 (newW r m s).seed, xs, xb], .bool true]) rfl rfl ?_ ?_
      · intro wx hSx
        go_simp
      simp only [Act.put, List.setIfInBounds_toArray, List.set_cons_zero, List.set_cons_succ]
      refine sch_still (o := ⟨some 22, _, _, _, _, _⟩) (v := .agg #[x, .int .i64 (newW r m s).tick, .int .i64 (newW r m s).seed, xs, xb]) rfl rfl ?_ ?_
      · intro wx hSx
        go_simp
      simp only [Act.put, List.setIfInBounds_toArray, List.set_cons_zero, List.set_cons_succ]
      refine sch_still (o := ⟨some 23, _, _, _, _, _⟩) (v := .bool true) rfl rfl ?_ ?_
      · intro wx hSx
        go_simp
      simp only [Act.put, List.setIfInBounds_toArray, List.set_cons_zero, List.set_cons_succ]
      refine sch_ef (o := ⟨none, _, _, _, _, _⟩) rfl ?_
      have ox := slice_one hO.at_.r
      have oxs := slice_one hO.at_.s
      have oxb := slice_one hO.at_.b
      have hcl := hcu3.lt
      refine store_wld (op := ⟨none, _, _, _, _, _⟩) rfl _ _ rfl (wq.heap.size) rfl x (newW r m s).tick (newW r m s).seed xs xb rfl hG.there ox oxs oxb ?_
      have hq := And.intro (hG.setAll (u' := x) (us' := xs) (ub' := xb) (tk' := (newW r m s).tick) (sd' := (newW r m s).seed)) (setCells_grown ww3 (wq.heap.size) 0 (wcells x (newW r m s).tick (newW r m s).seed xs xb))
      generalize World.setCells ww3 _ _ _ = wn at hq
      obtain ⟨hGn, hgn⟩ := hq
      have hge1 := hc5d.bl.size
      have hOn := (hO.tch (S := fun i => i = wq.heap.size) (Tch.of_grown1 hgn rfl) (fun i hi e => by have := hOl i hi; omega)).mono (B' := w1.heap.size) (by omega)
      have hcn := hcu3.grown hgn (fun k hk => by simp only [Option.some.injEq] at hk; omega)
      have ccn := World.grownBy.cell hgn hc3 (by simp only [ne_eq, Option.some.injEq]; omega)
      have hH : Hd wn w1.heap.size (wq.heap.size) x xs xb (newW r m s) := ⟨hGn, hOn, (fun e => by have := hOl _ (.inl e); omega), (fun e => by have := hOl _ (.inr (.inl e)); omega), (fun e => by have := hOl _ (.inr (.inr e)); omega), by omega⟩
      have hgi : ∀ i, blkH (wq.heap.size) x xs xb i → g < i := fun i hi => by rcases hi with rfl | hi; (· omega); (· have := hOl i hi; omega)
      refine sch_next ccn ?_
      simp only [Act.put]
      refine sch_end (.cons (o := ⟨some 8, _, _, _, _, _⟩) rfl .nil) ?_
      clear hG hO hGn hgn hOn
      go_wp2_with fail
      go_meet
      case rel => exact ⟨rfl, s, ⟨hs0, by omega⟩, ⟨⟨_, _, _, _, rfl, hH, hgi⟩, hcn⟩⟩
  case rest =>
  clear HNW c5 c5d hc5 hc5d hu5 hu5d hz5 hz5d hlv hug
  obtain ⟨rfl, s, hs, ⟨G, x, xs, xb, rfl, hH, hgi⟩, hcu⟩ := hcut
  obtain ⟨X, hX⟩ : ∃ X, newW r m s = X := ⟨_, rfl⟩
  rw [hX] at hH
  have HX := Lib.hid hX
  clear hX
  have hbw := (hb1.trans (hcu.bl.mono hb1.size)).drew
  have hRw := (hR1.below hcu.bl hR1.lt).drew
  have hHd := hH.drew
  have hcd : Cur w1 wc.drew g v l.length := hcu.drewN 1
  have hge := hcu.ge
  go_upto_region 5 with (fail)
  refine wp_region_sch (fun wx => WBlk wx G x X.tick X.seed xs xb) 4 3 (.st 0 (.st 1 (.st 2 (.ef 3 (.fin [4, 5]))))) (by kernel_rfl) (by kernel_rfl) (fun _ _ d _ _ h => by cases d <;> exact h) hHd.blk ?_
  refine sch_still (o := ⟨some 24, _, _, _, _, _⟩) (v := .agg #[x, .int .i64 X.tick, .int .i64 X.seed, xs, xb]) rfl rfl ?_ ?_
  · intro wx hSx
    exact still_wldM _ rfl G rfl _ _ _ _ _ hSx.range
  simp only [Act.put, List.setIfInBounds_toArray, List.set_cons_zero, List.set_cons_succ]
  refine sch_still (o := ⟨some 25, _, _, _, _, _⟩) (v := .pointer (some ⟨g, 0, none⟩)) rfl rfl ?_ ?_
  · intro wx hSx
    go_simp
  simp only [Act.put, List.setIfInBounds_toArray, List.set_cons_zero, List.set_cons_succ]
  refine sch_still (o := ⟨some 26, _, _, _, _, _⟩) (v := .int .i64 (m : Int)) rfl rfl ?_ ?_
  · intro wx hSx
    go_simp
  simp only [Act.put, List.setIfInBounds_toArray, List.set_cons_zero, List.set_cons_succ]
  clear hH hcu
  generalize wc.drew = wq at *
  refine sch_ef (o := ⟨some 27, _, _, _, _, _⟩) rfl ?_
  refine wpList_callC rfl 38 _ _ rfl Tryd.func38 (by kernel_rfl) (by kernel_rfl) #[.pointer (some ⟨g, 0, none⟩), .int .i64 (m : Int), .int .i64 24] (by kernel_rfl) (rows_ret m wq hd1 hcd hmb.2) ?_
  rintro e wd ⟨rv, us, L, rfl, hll, hok, hO2, hcz, hg2⟩
  refine ⟨_, rfl, ?_⟩
  have hH2 := hHd.tch (S := fun i => i = g) (Tch.of_grown1 hg2 rfl) (fun i hi e => by have := hgi i hi; omega)
  have hR2 := hRw.grown hg2 (by simp only [ne_eq, Option.some.injEq]; omega)
  have hb2 : Below w.heap.size w wd := hbw.grown hg2 (by have := hRw.lt; omega) (fun k h => by simp only [Option.some.injEq] at h; omega)
  have hzq := hRw.lt
  clear hHd hRw hbw hcz hg2
  have hOz := hH2.own
  have oz := slice_one hOz.at_.r
  have ozs := slice_one hOz.at_.s
  have ozb := slice_one hOz.at_.b
  refine sch_next hH2.blk ?_
  simp only [Act.put, List.setIfInBounds_toArray, List.set_cons_zero, List.set_cons_succ]
  refine sch_end (.cons (o := ⟨none, _, _, _, _, _⟩) rfl (.cons (o := ⟨some 3, _, _, _, _, _⟩) rfl .nil)) ?_
  refine store_wld (op := ⟨none, _, _, _, _, _⟩) rfl _ _ rfl w.heap.size rfl _ _ _ _ _ rfl hR2.there oz ozs ozb ?_
  have hq := And.intro (hR2.setAll (u' := x) (us' := xs) (ub' := xb) (tk' := X.tick) (sd' := X.seed)) (setCells_grown wd w.heap.size 0 (wcells x X.tick X.seed xs xb))
  generalize World.setCells wd _ _ _ = wn at hq
  obtain ⟨hRn, hgr⟩ := hq
  have hOn := (hOz.tch (S := fun i => i = w.heap.size) (Tch.of_grown1 hgr rfl) (fun i hi e => by have := (hOz.ge i hi).1; omega)).mono (B' := w.heap.size) (by omega)
  have hbn : Below w.heap.size w wn := hb2.grown hgr (by have := hR2.lt; omega) (fun k h => by simp only [Option.some.injEq] at h; omega)
  have hSn := hO2.keptB hgr hzq
  repeat go_step
  refine bodyPost_ret (res_wldV rfl rfl rfl hRn.range) rfl ?_
  exact ⟨x, xs, xb, _, us, X, L, r, m, s, rfl, ⟨hmem, hmb, hs, HX.out.symm, hll, hok⟩, hOn, hSn.at_, hbn⟩
end Go.Proofs.YtiopbdodegopdaaDoor
/- What the laws over drawn plays share: the code's bytes, the drawn world's properties. -/
namespace Go.Proofs.YtiopbdodegopdaaDoor
open Go.RowKit

theorem big_no (ao : Option Addr) (n cap : Nat) (w : World) (h : ¬ (1048576 : Int) < (n : Int)) :
    Calls Tryd.prog 6 #[.slice ao n cap] w fun e w' => e = .returned (.bool false) ∧ w = w' := by
  go_enter Tryd.func6, Tryd.ntmps6
  go_wp2
  go_ret
  exact ⟨rfl, rfl⟩
theorem atV_bd {l : List Int} (hw : ∀ n ∈ l, (Lit.int .u8 n).wf = true) (i : Int) : 0 ≤ atV l i ∧ atV l i ≤ 255 := by
  unfold atV
  split
  · omega
  · rw [List.getD]
    cases hx : l[((i * 5 + 1) % (l.length : Int)).toNat]? with
    | none => simp
    | some x =>
      have := Go.bounds_u8 (hw x (List.mem_of_getElem? hx))
      simp
      omega
theorem Drawn0.wok {X : Wd} {L : List (List Int)} {r : List ByteArray} {n : Nat} {s : Int} (h : Drawn0 X L r n s) : WOk X := by
  rw [h.w]
  exact newW_ok (lvQ_ok _ h.lv) h.n1.1 h.n1.2 h.sd.1 h.sd.2
theorem Drawn0.cnt {X : Wd} {L : List (List Int)} {r : List ByteArray} {n : Nat} {s : Int} (h : Drawn0 X L r n s) : X.scores.length = n := by rw [h.w]; simp [newW]
theorem Drawn0.rows {X : Wd} {L : List (List Int)} {r : List ByteArray} {n : Nat} {s : Int} (h : Drawn0 X L r n s) : X.rows = r := by rw [h.w]; rfl
theorem Drawn0.rowok {X : Wd} {L : List (List Int)} {r : List ByteArray} {n : Nat} {s : Int} (h : Drawn0 X L r n s) {q : List Int} (hq : q ∈ L) : rowOk q n = true := by
  obtain ⟨h1, h2⟩ := h.ok q hq
  unfold rowOk
  simp only [Bool.and_eq_true, decide_eq_true_eq]
  exact ⟨h1, List.all_eq_true.2 fun x hx => inB_iff.2 (h2 x hx)⟩
theorem sumL_row {n : Nat} : ∀ (k : Nat) {L : List (List Int)}, (∀ q ∈ L, RowOk n q) → k ≤ L.length → sumL L k ≤ n * k
  | 0, _, _, _ => Nat.zero_le _
  | k + 1, L, h, hk => by
    have h1 := sumL_row k h (by omega)
    have h2 := (h (lAt L k) (by rw [lAt_eq (by omega)]; exact List.getElem_mem _)).1
    simp only [sumL]
    rw [h2, Nat.mul_add]
    omega
theorem Drawn0.small {X : Wd} {L : List (List Int)} {r : List ByteArray} {n : Nat} {s : Int} (h : Drawn0 X L r n s) : SSmall L := by
  have h1 := sumL_row L.length h.ok (Nat.le_refl _)
  have h2 := h.ll
  have h3 := h.n1.2
  have h4 : n * L.length ≤ 4 * 96 := Nat.mul_le_mul h3 h2
  exact ⟨by omega, by omega⟩
end Go.Proofs.YtiopbdodegopdaaDoor
