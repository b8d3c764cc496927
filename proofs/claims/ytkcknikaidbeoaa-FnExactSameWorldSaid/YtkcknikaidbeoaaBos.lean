/- BodyOk, the reference's. -/
import Derived.Test.YtkcknikaidbeoaaBok
import Derived.Test.YtkcknikaidbeoaaSti
namespace Go.Proofs.Ytkcknikaidbeoaa
open Go.RowKit
set_option maxRecDepth 100000 in
set_option maxHeartbeats 16000000 in
theorem l02body_ret {u : Value} {l : List ByteArray} (n : Int) (b : Bd) (w : World) (h : At w 1 u l.length (l.map Value.string)) (hm : l.length ≤ 1048576) (hz : ∀ s ∈ l, s.size ≤ 1048576) (hv : lvT l = true) (hn1 : 1 ≤ n) (hn2 : n ≤ 9223372036854775807) :
    Calls Try.prog 101 #[.agg #[u], .int .i64 n, b.val] w fun e w' => e = .returned (.bool (okBd l n b)) ∧ Below w.heap.size w w' := by
  obtain ⟨k0, k1, k2, k3, k4, k5, k6, k7, k8⟩ := b
  have HV := Lib.hid hv
  unfold Bd.val bod
  simp only
  go_enter Try.func101, Try.ntmps101
  go_wp2_with fail
  generalize hw1 : (w.alloc _).alloc _ = w1
  have hb1 : Below w.heap.size w w1 := by rw [← hw1]; exact ((Below.refl _ _).alloc (Nat.le_refl _) _).alloc (by simp) _
  have hL1 : w1.cell? ⟨w.heap.size, 0, none⟩ = some u := by rw [← hw1]; simp [World.cell?_alloc_past, World.cell?_alloc_at]
  have hB1 : Blk w1 (w.heap.size + 1) ⟨k0, k1, k2, k3, k4, k5, k6, k7, k8⟩ := by
    rw [← hw1]
    have := Blk.new (w.alloc (.cells #[u] 27)) 56 ⟨k0, k1, k2, k3, k4, k5, k6, k7, k8⟩
    rwa [show (w.alloc (.cells #[u] 27)).heap.size = w.heap.size + 1 by simp] at this
  clear hw1 hv
  obtain ⟨hlt, c0, c1, c2, c3, c4, c5, c6, c7, c8, _⟩ := id hB1
  simp only at c0 c1 c2 c3 c4 c5 c6 c7 c8
  by_cases hk : k0 < 0 ∨ 2 < k0
  · have HN := Lib.hid (ok_bad_kind (l := l) (n := n) (b := ⟨k0, k1, k2, k3, k4, k5, k6, k7, k8⟩) hk)
    have hbb := hb1.drew
    refine wp_region_tailV 21 (by kernel_rfl) (by kernel_rfl) ?_
    intro OPS HOPS
    have g4 : Hid ((OPS[4]?).bind (·.dst) = some 11) := Lib.hid (by rw [HOPS.out]; kernel_rfl)
    have g12 : Hid ((OPS[12]?).bind (·.dst) = some 19) := Lib.hid (by rw [HOPS.out]; kernel_rfl)
    simp only [List.take_succ_cons, List.take_zero, List.drop_succ_cons, List.drop_zero]
    still_step
    still_step
    still_call ((in_no _ _ _ _ (by omega)).mono fun e w' h => ⟨h.1, h.2.symm⟩)
    still_step
    still_step
    refine wpStill_skipG 4 11 false true rfl g4.out rfl rfl rfl ?_
    refine wpStill_skipG 4 11 false true rfl g4.out rfl rfl rfl ?_
    refine wpStill_skipG 4 11 false true rfl g4.out rfl rfl rfl ?_
    refine wpStill_skipG 4 11 false true rfl g4.out rfl rfl rfl ?_
    refine wpStill_skipG 4 11 false true rfl g4.out rfl rfl rfl ?_
    refine wpStill_skipG 4 11 false true rfl g4.out rfl rfl rfl ?_
    still_step
    still_step
    refine wpStill_skipG 12 19 false true rfl g12.out rfl rfl rfl ?_
    refine wpStill_skipG 12 19 false true rfl g12.out rfl rfl rfl ?_
    refine wpStill_skipG 12 19 false true rfl g12.out rfl rfl rfl ?_
    refine wpStill_skipG 12 19 false true rfl g12.out rfl rfl rfl ?_
    refine wpStill_skipG 12 19 false true rfl g12.out rfl rfl rfl ?_
    refine wpStill_skipG 12 19 false true rfl g12.out rfl rfl rfl ?_
    refine wpStill_skipG 12 19 false true rfl g12.out rfl rfl rfl ?_
    refine wpStill_skipG 12 19 false true rfl g12.out rfl rfl rfl ?_
    refine wpStill_nil ?_
    change wpList _ _ _ _ _ w1.drew
    go_wp2_with fail
    go_ret
    exact ⟨ret_bool (by rw [HN.out]), hbb⟩
  have e1 : 0 ≤ k0 := by omega
  have e2 : k0 ≤ 2 := by omega
  clear hk
  by_cases ho : k1 < 0 ∨ n ≤ k1
  · have HN := Lib.hid (ok_bad_owner (l := l) (b := ⟨k0, k1, k2, k3, k4, k5, k6, k7, k8⟩) ho)
    have hbb := hb1.drew
    have hwn : IntKind.i64.wrap (n - 1) = n - 1 := IntWalk.i64_in _ (by omega)
    refine wp_region_tailV 21 (by kernel_rfl) (by kernel_rfl) ?_
    intro OPS HOPS
    have g4 : Hid ((OPS[4]?).bind (·.dst) = some 11) := Lib.hid (by rw [HOPS.out]; kernel_rfl)
    have g12 : Hid ((OPS[12]?).bind (·.dst) = some 19) := Lib.hid (by rw [HOPS.out]; kernel_rfl)
    simp only [List.take_succ_cons, List.take_zero, List.drop_succ_cons, List.drop_zero]
    still_step
    still_step
    still_call ((in_yes _ _ _ _ (by omega) (by omega)).mono fun e w' h => ⟨h.1, h.2.symm⟩)
    still_step
    still_step
    refine wpStill_wantG 4 11 false false rfl g4.out rfl rfl (fun K hK => ?_)
    go_simp
    refine hK _ ?_
    clear hK K
    refine wpStill_wantG 4 11 false false rfl g4.out rfl rfl (fun K hK => ?_)
    go_simp
    refine hK _ ?_
    clear hK K
    refine wpStill_wantG 4 11 false false rfl g4.out rfl rfl (fun K hK => ?_)
    go_simp
    refine hK _ ?_
    clear hK K
    refine wpStill_wantG 4 11 false false rfl g4.out rfl rfl (fun K hK => ?_)
    go_simp
    refine hK _ ?_
    clear hK K
    refine wpStill_wantG 4 11 false false rfl g4.out rfl rfl (fun K hK => ?_)
    go_simp
    refine ⟨_, (in_no _ _ _ _ (by omega)).mono (fun e w' h => ⟨h.1, h.2.symm⟩), hK _ ?_⟩
    clear hK K
    refine wpStill_wantG 4 11 false false rfl g4.out rfl rfl (fun K hK => ?_)
    go_simp
    refine hK _ ?_
    clear hK K
    still_step
    still_step
    refine wpStill_skipG 12 19 false true rfl g12.out rfl rfl rfl ?_
    refine wpStill_skipG 12 19 false true rfl g12.out rfl rfl rfl ?_
    refine wpStill_skipG 12 19 false true rfl g12.out rfl rfl rfl ?_
    refine wpStill_skipG 12 19 false true rfl g12.out rfl rfl rfl ?_
    refine wpStill_skipG 12 19 false true rfl g12.out rfl rfl rfl ?_
    refine wpStill_skipG 12 19 false true rfl g12.out rfl rfl rfl ?_
    refine wpStill_skipG 12 19 false true rfl g12.out rfl rfl rfl ?_
    refine wpStill_skipG 12 19 false true rfl g12.out rfl rfl rfl ?_
    refine wpStill_nil ?_
    change wpList _ _ _ _ _ w1.drew
    go_wp2_with fail
    go_ret
    exact ⟨ret_bool (by rw [HN.out]), hbb⟩
  have o1 : 0 ≤ k1 := by omega
  have o2 : k1 < n := by omega
  clear ho
  have HP : Hid (solT l k2 k3 (szOf k0) = false → inB k4 (-15) 15 = true → inB k5 (-15) 15 = true → OkPre l n ⟨k0, k1, k2, k3, k4, k5, k6, k7, k8⟩) := Lib.hid fun h1 h2 h3 => ⟨HV.out, ⟨e1, e2⟩, ⟨o1, o2⟩, h1, h2, h3⟩
  have hsz := szOf_pos e1 e2
  have HS : ∀ wx, Below w.heap.size w wx → Calls Try.prog 87 #[.agg #[u], .int .i64 k2, .int .i64 k3, .int .i64 (szOf k0)] wx fun e w' => e = .returned (.bool (solT l k2 k3 (szOf k0))) ∧ Below wx.heap.size wx w' := fun wx hb => solid_spec k2 k3 (szOf k0) wx (h.below hb) hm hz hsz.1 hsz.2
  clear hsz
  rcases (show k0 = 0 ∨ k0 = 1 ∨ k0 = 2 by omega) with rfl | rfl | rfl
  · have hwn : IntKind.i64.wrap (n - 1) = n - 1 := IntWalk.i64_in _ (by omega)
    refine wp_region_tailV 21 (by kernel_rfl) (by kernel_rfl) ?_
    intro OPS HOPS
    have g4 : Hid ((OPS[4]?).bind (·.dst) = some 11) := Lib.hid (by rw [HOPS.out]; kernel_rfl)
    have g12 : Hid ((OPS[12]?).bind (·.dst) = some 19) := Lib.hid (by rw [HOPS.out]; kernel_rfl)
    simp only [List.take_succ_cons, List.take_zero, List.drop_succ_cons, List.drop_zero]
    still_step
    still_step
    still_call ((in_yes _ _ _ _ (by omega) (by omega)).mono fun e w' h => ⟨h.1, h.2.symm⟩)
    still_step
    still_step
    refine wpStill_wantG 4 11 false false rfl g4.out rfl rfl (fun K hK => ?_)
    go_simp
    refine hK _ ?_
    clear hK K
    refine wpStill_wantG 4 11 false false rfl g4.out rfl rfl (fun K hK => ?_)
    go_simp
    refine hK _ ?_
    clear hK K
    refine wpStill_wantG 4 11 false false rfl g4.out rfl rfl (fun K hK => ?_)
    go_simp
    refine hK _ ?_
    clear hK K
    refine wpStill_wantG 4 11 false false rfl g4.out rfl rfl (fun K hK => ?_)
    go_simp
    refine hK _ ?_
    clear hK K
    refine wpStill_wantG 4 11 false false rfl g4.out rfl rfl (fun K hK => ?_)
    go_simp
    refine ⟨_, (in_yes _ _ _ _ (by omega) (by omega)).mono (fun e w' h => ⟨h.1, h.2.symm⟩), hK _ ?_⟩
    clear hK K
    refine wpStill_wantG 4 11 false false rfl g4.out rfl rfl (fun K hK => ?_)
    go_simp
    refine hK _ ?_
    clear hK K
    still_step
    still_step
    refine wpStill_wantG 12 19 false false rfl g12.out rfl rfl (fun K hK => ?_)
    go_simp
    refine hK _ ?_
    clear hK K
    refine wpStill_wantG 12 19 false false rfl g12.out rfl rfl (fun K hK => ?_)
    go_simp
    refine hK _ ?_
    clear hK K
    refine wpStill_wantG 12 19 false false rfl g12.out rfl rfl (fun K hK => ?_)
    go_simp
    refine hK _ ?_
    clear hK K
    refine wpStill_wantG 12 19 false false rfl g12.out rfl rfl (fun K hK => ?_)
    go_simp
    refine hK _ ?_
    clear hK K
    refine wpStill_wantG 12 19 false false rfl g12.out rfl rfl (fun K hK => ?_)
    go_simp
    refine hK _ ?_
    clear hK K
    refine wpStill_wantG 12 19 false false rfl g12.out rfl rfl (fun K hK => ?_)
    go_simp
    refine hK _ ?_
    clear hK K
    refine wpStill_wantG 12 19 false false rfl g12.out rfl rfl (fun K hK => ?_)
    go_simp
    refine hK _ ?_
    clear hK K
    refine wpStill_wantG 12 19 false false rfl g12.out rfl rfl (fun K hK => ?_)
    go_simp
    refine ⟨_, (sz_spec _ _).mono (fun e w' h => ⟨h.1, h.2.symm⟩), hK _ ?_⟩
    clear hK K
    refine wpStill_nil ?_
    change wpList _ _ _ _ _ w1.drew
    clear hwn
    go_wp2_with fail
    refine (HS w1.drew hb1.drew).mono ?_
    rintro e wb ⟨rfl, hb⟩
    have hbb : Below w.heap.size w wb := hb1.drew.trans (hb.mono hb1.drew.size)
    have hBb : Blk wb (w.heap.size + 1) ⟨0, k1, k2, k3, k4, k5, k6, k7, k8⟩ := hB1.drew.below hb hB1.drew.lt
    obtain ⟨_, d0, d1, d2, d3, d4, d5, d6, d7, d8, _⟩ := hBb
    simp only at d0 d1 d2 d3 d4 d5 d6 d7 d8
    clear hb c0 c1 c2 c3 c4 c5 c6 c7 c8
    cases hs : solT l k2 k3 (szOf 0) with
    | true =>
      have HN := Lib.hid (ok_bad_sol (n := n) (b := ⟨0, k1, k2, k3, k4, k5, k6, k7, k8⟩) hs)
      clear hs
      go_wp2_with fail
      go_ret
      exact ⟨ret_bool (by rw [HN.out]), hbb⟩
    | false =>
      have HS1 := Lib.hid hs
      clear hs
      cases hvx : inB k4 (-15) 15 with
      | false =>
        have HN := Lib.hid (ok_bad_vx (l := l) (n := n) (b := ⟨0, k1, k2, k3, k4, k5, k6, k7, k8⟩) hvx)
        go_wp2_with fail
        refine (in_any _ _ _ _).mono ?_
        rintro e wx ⟨rfl, rfl⟩
        rw [hvx]
        clear hvx
        go_wp2_with fail
        go_ret
        exact ⟨ret_bool (by rw [HN.out]), hbb⟩
      | true =>
        have HX1 := Lib.hid hvx
        go_wp2_with fail
        refine (in_any _ _ _ _).mono ?_
        rintro e wx ⟨rfl, rfl⟩
        rw [hvx]
        clear hvx
        go_wp2_with fail
        refine (in_any _ _ _ _).mono ?_
        rintro e wx ⟨rfl, rfl⟩
        cases hvy : inB k5 (-15) 15 with
        | false =>
          have HN := Lib.hid (ok_bad_vy (l := l) (n := n) (b := ⟨0, k1, k2, k3, k4, k5, k6, k7, k8⟩) hvy)
          clear hvy
          go_wp2_with fail
          go_ret
          exact ⟨ret_bool (by rw [HN.out]), hbb⟩
        | true =>
          have HPre := Lib.hid (HP.out HS1.out HX1.out hvy)
          clear hvy
          by_cases hai : ¬ (k6 = 1 ∨ k6 = -1)
          · have HN := Lib.hid (ok_bad_aim (l := l) (n := n) (b := ⟨0, k1, k2, k3, k4, k5, k6, k7, k8⟩) rfl hai)
            have a1 : (k6 != -1) = true := by simp; omega
            have a2 : (k6 != 1) = true := by simp; omega
            clear hai
            go_wp2_with fail
            go_ret
            exact ⟨ret_bool (by rw [HN.out]), hbb⟩
          have HA := Lib.hid (Decidable.not_not.1 hai)
          have haim : (k6 != 1) = false ∨ ((k6 != 1) = true ∧ (k6 != -1) = false) := by
            rcases HA.out with e | e
            · exact .inl (by simp; omega)
            · exact .inr ⟨by simp; omega, by simp; omega⟩
          clear hai
          rcases haim with a1 | ⟨a1, a2⟩
          all_goals
            go_wp2_with fail
            refine (in_any _ _ _ _).mono ?_
            rintro e wx ⟨rfl, rfl⟩
            cases hli : inB k7 0 3 with
            | false =>
              have HN := Lib.hid (ok_bad_life (l := l) (n := n) (b := ⟨0, k1, k2, k3, k4, k5, k6, k7, k8⟩) rfl hli)
              clear hli
              go_wp2_with fail
              go_ret
              exact ⟨ret_bool (by rw [HN.out]), hbb⟩
            | true =>
              by_cases h7 : k7 = 0
              · have HN := Lib.hid (ok_pl0 HPre.out rfl HA.out hli h7)
                have h8 : (k7 == 0) = true := by rw [h7]; rfl
                clear hli h7
                go_wp2_with fail
                refine (in_any _ _ _ _).mono ?_
                rintro e wx ⟨rfl, rfl⟩
                go_wp2_with fail
                go_ret
                exact ⟨ret_bool (by rw [HN.out]), hbb⟩
              · have HN := Lib.hid (ok_pl1 HPre.out rfl HA.out hli h7)
                have h8 : (k7 == 0) = false := beq_eq_false_iff_ne.2 h7
                clear hli h7
                go_wp2_with fail
                refine (in_any _ _ _ _).mono ?_
                rintro e wx ⟨rfl, rfl⟩
                go_wp2_with fail
                go_ret
                exact ⟨ret_bool (by rw [HN.out]), hbb⟩
  · have hwn : IntKind.i64.wrap (n - 1) = n - 1 := IntWalk.i64_in _ (by omega)
    refine wp_region_tailV 21 (by kernel_rfl) (by kernel_rfl) ?_
    intro OPS HOPS
    have g4 : Hid ((OPS[4]?).bind (·.dst) = some 11) := Lib.hid (by rw [HOPS.out]; kernel_rfl)
    have g12 : Hid ((OPS[12]?).bind (·.dst) = some 19) := Lib.hid (by rw [HOPS.out]; kernel_rfl)
    simp only [List.take_succ_cons, List.take_zero, List.drop_succ_cons, List.drop_zero]
    still_step
    still_step
    still_call ((in_yes _ _ _ _ (by omega) (by omega)).mono fun e w' h => ⟨h.1, h.2.symm⟩)
    still_step
    still_step
    refine wpStill_wantG 4 11 false false rfl g4.out rfl rfl (fun K hK => ?_)
    go_simp
    refine hK _ ?_
    clear hK K
    refine wpStill_wantG 4 11 false false rfl g4.out rfl rfl (fun K hK => ?_)
    go_simp
    refine hK _ ?_
    clear hK K
    refine wpStill_wantG 4 11 false false rfl g4.out rfl rfl (fun K hK => ?_)
    go_simp
    refine hK _ ?_
    clear hK K
    refine wpStill_wantG 4 11 false false rfl g4.out rfl rfl (fun K hK => ?_)
    go_simp
    refine hK _ ?_
    clear hK K
    refine wpStill_wantG 4 11 false false rfl g4.out rfl rfl (fun K hK => ?_)
    go_simp
    refine ⟨_, (in_yes _ _ _ _ (by omega) (by omega)).mono (fun e w' h => ⟨h.1, h.2.symm⟩), hK _ ?_⟩
    clear hK K
    refine wpStill_wantG 4 11 false false rfl g4.out rfl rfl (fun K hK => ?_)
    go_simp
    refine hK _ ?_
    clear hK K
    still_step
    still_step
    refine wpStill_wantG 12 19 false false rfl g12.out rfl rfl (fun K hK => ?_)
    go_simp
    refine hK _ ?_
    clear hK K
    refine wpStill_wantG 12 19 false false rfl g12.out rfl rfl (fun K hK => ?_)
    go_simp
    refine hK _ ?_
    clear hK K
    refine wpStill_wantG 12 19 false false rfl g12.out rfl rfl (fun K hK => ?_)
    go_simp
    refine hK _ ?_
    clear hK K
    refine wpStill_wantG 12 19 false false rfl g12.out rfl rfl (fun K hK => ?_)
    go_simp
    refine hK _ ?_
    clear hK K
    refine wpStill_wantG 12 19 false false rfl g12.out rfl rfl (fun K hK => ?_)
    go_simp
    refine hK _ ?_
    clear hK K
    refine wpStill_wantG 12 19 false false rfl g12.out rfl rfl (fun K hK => ?_)
    go_simp
    refine hK _ ?_
    clear hK K
    refine wpStill_wantG 12 19 false false rfl g12.out rfl rfl (fun K hK => ?_)
    go_simp
    refine hK _ ?_
    clear hK K
    refine wpStill_wantG 12 19 false false rfl g12.out rfl rfl (fun K hK => ?_)
    go_simp
    refine ⟨_, (sz_spec _ _).mono (fun e w' h => ⟨h.1, h.2.symm⟩), hK _ ?_⟩
    clear hK K
    refine wpStill_nil ?_
    change wpList _ _ _ _ _ w1.drew
    clear hwn
    go_wp2_with fail
    refine (HS w1.drew hb1.drew).mono ?_
    rintro e wb ⟨rfl, hb⟩
    have hbb : Below w.heap.size w wb := hb1.drew.trans (hb.mono hb1.drew.size)
    have hBb : Blk wb (w.heap.size + 1) ⟨1, k1, k2, k3, k4, k5, k6, k7, k8⟩ := hB1.drew.below hb hB1.drew.lt
    obtain ⟨_, d0, d1, d2, d3, d4, d5, d6, d7, d8, _⟩ := hBb
    simp only at d0 d1 d2 d3 d4 d5 d6 d7 d8
    clear hb c0 c1 c2 c3 c4 c5 c6 c7 c8
    cases hs : solT l k2 k3 (szOf 1) with
    | true =>
      have HN := Lib.hid (ok_bad_sol (n := n) (b := ⟨1, k1, k2, k3, k4, k5, k6, k7, k8⟩) hs)
      clear hs
      go_wp2_with fail
      go_ret
      exact ⟨ret_bool (by rw [HN.out]), hbb⟩
    | false =>
      have HS1 := Lib.hid hs
      clear hs
      cases hvx : inB k4 (-15) 15 with
      | false =>
        have HN := Lib.hid (ok_bad_vx (l := l) (n := n) (b := ⟨1, k1, k2, k3, k4, k5, k6, k7, k8⟩) hvx)
        go_wp2_with fail
        refine (in_any _ _ _ _).mono ?_
        rintro e wx ⟨rfl, rfl⟩
        rw [hvx]
        clear hvx
        go_wp2_with fail
        go_ret
        exact ⟨ret_bool (by rw [HN.out]), hbb⟩
      | true =>
        have HX1 := Lib.hid hvx
        go_wp2_with fail
        refine (in_any _ _ _ _).mono ?_
        rintro e wx ⟨rfl, rfl⟩
        rw [hvx]
        clear hvx
        go_wp2_with fail
        refine (in_any _ _ _ _).mono ?_
        rintro e wx ⟨rfl, rfl⟩
        cases hvy : inB k5 (-15) 15 with
        | false =>
          have HN := Lib.hid (ok_bad_vy (l := l) (n := n) (b := ⟨1, k1, k2, k3, k4, k5, k6, k7, k8⟩) hvy)
          clear hvy
          go_wp2_with fail
          go_ret
          exact ⟨ret_bool (by rw [HN.out]), hbb⟩
        | true =>
          have HPre := Lib.hid (HP.out HS1.out HX1.out hvy)
          clear hvy
          by_cases ha0 : k6 ≠ 0
          · have HN := Lib.hid (ok_bad_ot (l := l) (n := n) (b := ⟨1, k1, k2, k3, k4, k5, k6, k7, k8⟩) (show (1 : Int) ≠ 0 by decide) (.inl ha0))
            have a1 : (k6 == 0) = false := beq_eq_false_iff_ne.2 ha0
            clear ha0
            go_wp2_with fail
            go_ret
            exact ⟨ret_bool (by rw [HN.out]), hbb⟩
          obtain rfl : k6 = 0 := Decidable.not_not.1 ha0
          clear ha0
          by_cases hl0 : k7 ≠ 0
          · have HN := Lib.hid (ok_bad_ot (l := l) (n := n) (b := ⟨1, k1, k2, k3, k4, k5, 0, k7, k8⟩) (show (1 : Int) ≠ 0 by decide) (.inr hl0))
            have a1 : (k7 == 0) = false := beq_eq_false_iff_ne.2 hl0
            clear hl0
            go_wp2_with fail
            go_ret
            exact ⟨ret_bool (by rw [HN.out]), hbb⟩
          obtain rfl : k7 = 0 := Decidable.not_not.1 hl0
          clear hl0
          have HN := Lib.hid (ok_shot HPre.out rfl rfl rfl)
          go_wp2_with fail
          refine (in_any _ _ _ _).mono ?_
          rintro e wx ⟨rfl, rfl⟩
          go_wp2_with fail
          go_ret
          exact ⟨ret_bool (by rw [HN.out]), hbb⟩
  · have hwn : IntKind.i64.wrap (n - 1) = n - 1 := IntWalk.i64_in _ (by omega)
    refine wp_region_tailV 21 (by kernel_rfl) (by kernel_rfl) ?_
    intro OPS HOPS
    have g4 : Hid ((OPS[4]?).bind (·.dst) = some 11) := Lib.hid (by rw [HOPS.out]; kernel_rfl)
    have g12 : Hid ((OPS[12]?).bind (·.dst) = some 19) := Lib.hid (by rw [HOPS.out]; kernel_rfl)
    simp only [List.take_succ_cons, List.take_zero, List.drop_succ_cons, List.drop_zero]
    still_step
    still_step
    still_call ((in_yes _ _ _ _ (by omega) (by omega)).mono fun e w' h => ⟨h.1, h.2.symm⟩)
    still_step
    still_step
    refine wpStill_wantG 4 11 false false rfl g4.out rfl rfl (fun K hK => ?_)
    go_simp
    refine hK _ ?_
    clear hK K
    refine wpStill_wantG 4 11 false false rfl g4.out rfl rfl (fun K hK => ?_)
    go_simp
    refine hK _ ?_
    clear hK K
    refine wpStill_wantG 4 11 false false rfl g4.out rfl rfl (fun K hK => ?_)
    go_simp
    refine hK _ ?_
    clear hK K
    refine wpStill_wantG 4 11 false false rfl g4.out rfl rfl (fun K hK => ?_)
    go_simp
    refine hK _ ?_
    clear hK K
    refine wpStill_wantG 4 11 false false rfl g4.out rfl rfl (fun K hK => ?_)
    go_simp
    refine ⟨_, (in_yes _ _ _ _ (by omega) (by omega)).mono (fun e w' h => ⟨h.1, h.2.symm⟩), hK _ ?_⟩
    clear hK K
    refine wpStill_wantG 4 11 false false rfl g4.out rfl rfl (fun K hK => ?_)
    go_simp
    refine hK _ ?_
    clear hK K
    still_step
    still_step
    refine wpStill_wantG 12 19 false false rfl g12.out rfl rfl (fun K hK => ?_)
    go_simp
    refine hK _ ?_
    clear hK K
    refine wpStill_wantG 12 19 false false rfl g12.out rfl rfl (fun K hK => ?_)
    go_simp
    refine hK _ ?_
    clear hK K
    refine wpStill_wantG 12 19 false false rfl g12.out rfl rfl (fun K hK => ?_)
    go_simp
    refine hK _ ?_
    clear hK K
    refine wpStill_wantG 12 19 false false rfl g12.out rfl rfl (fun K hK => ?_)
    go_simp
    refine hK _ ?_
    clear hK K
    refine wpStill_wantG 12 19 false false rfl g12.out rfl rfl (fun K hK => ?_)
    go_simp
    refine hK _ ?_
    clear hK K
    refine wpStill_wantG 12 19 false false rfl g12.out rfl rfl (fun K hK => ?_)
    go_simp
    refine hK _ ?_
    clear hK K
    refine wpStill_wantG 12 19 false false rfl g12.out rfl rfl (fun K hK => ?_)
    go_simp
    refine hK _ ?_
    clear hK K
    refine wpStill_wantG 12 19 false false rfl g12.out rfl rfl (fun K hK => ?_)
    go_simp
    refine ⟨_, (sz_spec _ _).mono (fun e w' h => ⟨h.1, h.2.symm⟩), hK _ ?_⟩
    clear hK K
    refine wpStill_nil ?_
    change wpList _ _ _ _ _ w1.drew
    clear hwn
    go_wp2_with fail
    refine (HS w1.drew hb1.drew).mono ?_
    rintro e wb ⟨rfl, hb⟩
    have hbb : Below w.heap.size w wb := hb1.drew.trans (hb.mono hb1.drew.size)
    have hBb : Blk wb (w.heap.size + 1) ⟨2, k1, k2, k3, k4, k5, k6, k7, k8⟩ := hB1.drew.below hb hB1.drew.lt
    obtain ⟨_, d0, d1, d2, d3, d4, d5, d6, d7, d8, _⟩ := hBb
    simp only at d0 d1 d2 d3 d4 d5 d6 d7 d8
    clear hb c0 c1 c2 c3 c4 c5 c6 c7 c8
    cases hs : solT l k2 k3 (szOf 2) with
    | true =>
      have HN := Lib.hid (ok_bad_sol (n := n) (b := ⟨2, k1, k2, k3, k4, k5, k6, k7, k8⟩) hs)
      clear hs
      go_wp2_with fail
      go_ret
      exact ⟨ret_bool (by rw [HN.out]), hbb⟩
    | false =>
      have HS1 := Lib.hid hs
      clear hs
      cases hvx : inB k4 (-15) 15 with
      | false =>
        have HN := Lib.hid (ok_bad_vx (l := l) (n := n) (b := ⟨2, k1, k2, k3, k4, k5, k6, k7, k8⟩) hvx)
        go_wp2_with fail
        refine (in_any _ _ _ _).mono ?_
        rintro e wx ⟨rfl, rfl⟩
        rw [hvx]
        clear hvx
        go_wp2_with fail
        go_ret
        exact ⟨ret_bool (by rw [HN.out]), hbb⟩
      | true =>
        have HX1 := Lib.hid hvx
        go_wp2_with fail
        refine (in_any _ _ _ _).mono ?_
        rintro e wx ⟨rfl, rfl⟩
        rw [hvx]
        clear hvx
        go_wp2_with fail
        refine (in_any _ _ _ _).mono ?_
        rintro e wx ⟨rfl, rfl⟩
        cases hvy : inB k5 (-15) 15 with
        | false =>
          have HN := Lib.hid (ok_bad_vy (l := l) (n := n) (b := ⟨2, k1, k2, k3, k4, k5, k6, k7, k8⟩) hvy)
          clear hvy
          go_wp2_with fail
          go_ret
          exact ⟨ret_bool (by rw [HN.out]), hbb⟩
        | true =>
          have HPre := Lib.hid (HP.out HS1.out HX1.out hvy)
          clear hvy
          by_cases ho0 : k1 ≠ 0
          · have HN := Lib.hid (ok_bad_item (l := l) (n := n) (b := ⟨2, k1, k2, k3, k4, k5, k6, k7, k8⟩) rfl (.inl ho0))
            have a1 : (k1 == 0) = false := beq_eq_false_iff_ne.2 ho0
            clear ho0
            go_wp2_with fail
            go_ret
            exact ⟨ret_bool (by rw [HN.out]), hbb⟩
          obtain rfl : k1 = 0 := Decidable.not_not.1 ho0
          clear ho0
          by_cases ha0 : k6 ≠ 0
          · have HN := Lib.hid (ok_bad_ot (l := l) (n := n) (b := ⟨2, 0, k2, k3, k4, k5, k6, k7, k8⟩) (show (2 : Int) ≠ 0 by decide) (.inl ha0))
            have a1 : (k6 == 0) = false := beq_eq_false_iff_ne.2 ha0
            clear ha0
            go_wp2_with fail
            go_ret
            exact ⟨ret_bool (by rw [HN.out]), hbb⟩
          obtain rfl : k6 = 0 := Decidable.not_not.1 ha0
          clear ha0
          by_cases hl0 : k7 ≠ 0
          · have HN := Lib.hid (ok_bad_ot (l := l) (n := n) (b := ⟨2, 0, k2, k3, k4, k5, 0, k7, k8⟩) (show (2 : Int) ≠ 0 by decide) (.inr hl0))
            have a1 : (k7 == 0) = false := beq_eq_false_iff_ne.2 hl0
            clear hl0
            go_wp2_with fail
            go_ret
            exact ⟨ret_bool (by rw [HN.out]), hbb⟩
          obtain rfl : k7 = 0 := Decidable.not_not.1 hl0
          clear hl0
          have HN := Lib.hid (ok_item HPre.out rfl rfl rfl rfl)
          go_wp2_with fail
          go_ret
          exact ⟨ret_bool (by rw [HN.out]), hbb⟩
set_option maxRecDepth 100000 in
set_option maxHeartbeats 4000000 in
theorem bok_spec {u : Value} {l : List ByteArray} (n : Int) (b : Bd) (w : World) (h : At w 1 u l.length (l.map Value.string)) (hm : l.length ≤ 1048576) (hz : ∀ s ∈ l, s.size ≤ 1048576) (hn2 : n ≤ 9223372036854775807) :
    Calls Try.prog 46 #[.agg #[u], .int .i64 n, b.val] w fun e w' => e = .returned (.bool (okBd l n b)) ∧ Below w.heap.size w w' := by
  have HL : ∀ wx, Below w.heap.size w wx → Calls Try.prog 25 #[.agg #[u]] wx fun e w' => e = .returned (.bool (lvT l)) ∧ Below wx.heap.size wx w' := fun wx hx => lvok_spec wx (h.below hx) hm hz
  have HB : ∀ wx, Below w.heap.size w wx → lvT l = true → 1 ≤ n → Calls Try.prog 101 #[.agg #[u], .int .i64 n, b.val] wx fun e w' => e = .returned (.bool (okBd l n b)) ∧ Below wx.heap.size wx w' := fun wx hx hv h1 => l02body_ret n b wx (h.below hx) hm hz hv h1 hn2
  obtain ⟨k0, k1, k2, k3, k4, k5, k6, k7, k8⟩ := b
  unfold Bd.val bod at HB ⊢
  simp only at HB ⊢
  go_enter Try.func46, Try.ntmps46
  go_wp2_with fail
  generalize hw1 : (w.alloc _).alloc _ = w1
  have hb1 : Below w.heap.size w w1 := by rw [← hw1]; exact ((Below.refl _ _).alloc (Nat.le_refl _) _).alloc (by simp) _
  have hL1 : w1.cell? ⟨w.heap.size, 0, none⟩ = some u := by rw [← hw1]; simp [World.cell?_alloc_past, World.cell?_alloc_at]
  have hB1 : Blk w1 (w.heap.size + 1) ⟨k0, k1, k2, k3, k4, k5, k6, k7, k8⟩ := by
    rw [← hw1]
    have := Blk.new (w.alloc (.cells #[u] 27)) 56 ⟨k0, k1, k2, k3, k4, k5, k6, k7, k8⟩
    rwa [show (w.alloc (.cells #[u] 27)).heap.size = w.heap.size + 1 by simp] at this
  clear hw1
  refine (HL _ hb1).mono ?_
  rintro e wa ⟨rfl, ha⟩
  have hba := hb1.trans (ha.mono hb1.size)
  have hLa : wa.cell? ⟨w.heap.size, 0, none⟩ = some u := (ha.cell (by have := hB1.lt; show w.heap.size < _; omega)).trans hL1
  obtain ⟨_, c0, c1, c2, c3, c4, c5, c6, c7, c8, _⟩ := hB1.below ha hB1.lt
  simp only at c0 c1 c2 c3 c4 c5 c6 c7 c8
  clear ha hb1 hB1 hL1 HL
  cases hv : lvT l with
  | false =>
    have HN := Lib.hid (ok_bad_lv (n := n) (b := ⟨k0, k1, k2, k3, k4, k5, k6, k7, k8⟩) hv)
    clear hv HB
    go_wp2_with fail
    go_ret
    exact ⟨ret_bool (by rw [HN.out]), hba⟩
  | true =>
    by_cases hn : n ≤ 0
    · have HN : Hid (okBd l n ⟨k0, k1, k2, k3, k4, k5, k6, k7, k8⟩ = false) := Lib.hid (ok_bad_owner (by simp only; omega))
      clear hv HB
      go_wp2_with fail
      go_ret
      exact ⟨ret_bool (by rw [HN.out]), hba⟩
    · have h0 : 0 < n := by omega
      have HB2 := HB wa hba hv (by omega)
      clear hv HB
      go_wp2_with fail
      refine HB2.mono ?_
      rintro e wb ⟨rfl, hb⟩
      go_wp2_with fail
      go_ret
      exact ⟨rfl, hba.trans (hb.mono hba.size)⟩
end Go.Proofs.Ytkcknikaidbeoaa
