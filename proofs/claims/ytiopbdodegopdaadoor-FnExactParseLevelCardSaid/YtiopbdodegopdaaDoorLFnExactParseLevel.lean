/- For every input the law FnExactParseLevel returns true and leaves what was in memory as it was. No condition. -/
import Derived.Test.YtiopbdodegopdaaDoorPsi
import Derived.Test.YtiopbdodegopdaaDoorWme
import Derived.Test.YtiopbdodegopdaaDoorFrame
import Derived.Test.YtiopbdodegopdaaDoorOrd
import Derived.Test.YtiopbdodegopdaaDoorLft
import Derived.Test.YtiopbdodegopdaaDoorCards
import Derived.Test.YtiopbdodegopdaaDoorTie
import Derived.ProofKit
import Derived.LaidMore
import Derived.OpenShut
import Derived.Stop.Joined
import Derived.Stop.LaidErr
import Derived.SevenTiedAt
namespace Go.Proofs.YtiopbdodegopdaaDoor.fnExactParseLevel
open Go.ChangeShapes Go.WideShapes Go.ChangeAt Go.RowKit
open Go.ChangeMaps (open_string shut_string)
set_option linter.unusedVariables false

theorem parT_len (s : ByteArray) : (parT s).1.length ≤ 12 := by
  unfold parT
  split
  · rename_i h
    exact (lvT_lv h).n12
  · exact Nat.zero_le _
theorem Tch.cell {S : Nat → Prop} {w w' : World} (h : Tch S w w') {p : Addr} (hp : p.block < w.heap.size) (hs : ¬ S p.block) : w'.cell? p = w.cell? p := World.cell?_of_block (h.block p.block hp hs)
set_option maxRecDepth 100000 in
set_option maxHeartbeats 8000000 in
theorem walk (w : World) (a0 : ByteArray) (w0 : a0.size ≤ maxLen) (ht : Mx w) :
    Calls Tryd.prog 4 #[.string a0] w fun e w' => e = .returned (.bool true) ∧ Below w.heap.size w w' := by
  by_cases hbig : (1048576 : Int) < (a0.size : Int)
  · go_enter Tryd.func4, Tryd.ntmps4
    go_wp2_with fail
    go_ret
    exact ⟨rfl, Below.refl _ _⟩
  have hS := fun wx => parse_spec a0 wx (by omega)
  have hI := fun wx (hx : Mx wx) => parse_impl a0 wx hx (by omega)
  have hl := parT_len a0
  obtain ⟨L, b, hE⟩ : ∃ l b, parT a0 = (l, b) := ⟨_, _, rfl⟩
  simp only [hE] at hS hI hl
  clear hE
  go_enter Tryd.func4, Tryd.ntmps4
  go_wp2_with fail
  refine (hS _).mono ?_
  rintro e wa ⟨u0, rfl, hu0, ha⟩
  obtain ⟨o0, k0, rfl⟩ := hu0.slice_
  have hsa := ha.size
  go_wp2_with fail
  generalize hwb : wa.alloc _ = wb
  have hB : Below w.heap.size w wb := by rw [← hwb]; exact ha.alloc hsa _
  have c0 : wb.cell? ⟨wa.heap.size, 0, none⟩ = some (.slice o0 L.length k0) := by rw [← hwb]; exact World.cell?_alloc_new _ _ _ 0
  have sb : wb.heap.size = wa.heap.size + 1 := by rw [← hwb]; simp
  have hu0b : Own wb w.heap.size 1 (.slice o0 L.length k0) L.length (L.map Value.string) := by rw [← hwb]; exact hu0.alloc _
  have hu0l : ∀ i, (Value.slice o0 L.length k0).ownBlock = some i → i < wa.heap.size := fun i hi => (hu0.ge i hi).2
  clear hwb ha hu0
  refine (hI _ (ht.below hB)).mono ?_
  rintro e wc ⟨u1, rfl, hu1, hc⟩
  obtain ⟨o1, k1, rfl⟩ := hu1.slice_
  have hsc := hc.size
  have hBc := hB.trans (hc.mono hB.size)
  have c0c : wc.cell? ⟨wa.heap.size, 0, none⟩ = some (.slice o0 L.length k0) := (hc.cell (p := ⟨wa.heap.size, 0, none⟩) (by show wa.heap.size < _; omega)).trans c0
  have hu0c : Own wc w.heap.size 1 (.slice o0 L.length k0) L.length (L.map Value.string) := hu0b.below hc (fun i hi => (hu0b.ge i hi).2)
  clear hB c0 hu0b hc
  go_upto_region 5 with (fail)
  generalize hwd : wc.alloc _ = wd
  have hB : Below w.heap.size w wd := by rw [← hwd]; exact hBc.alloc hBc.size _
  have c0 : wd.cell? ⟨wa.heap.size, 0, none⟩ = some (.slice o0 L.length k0) := by rw [← hwd]; exact cell_alloc_lt c0c _ (by show wa.heap.size < _; omega)
  have c1 : wd.cell? ⟨wc.heap.size, 0, none⟩ = some (.slice o1 L.length k1) := by rw [← hwd]; exact World.cell?_alloc_new _ _ _ 0
  have sd : wd.heap.size = wc.heap.size + 1 := by rw [← hwd]; simp
  have hu0d : Own wd w.heap.size 1 (.slice o0 L.length k0) L.length (L.map Value.string) := by rw [← hwd]; exact hu0c.alloc _
  have hu1d : Own wd wb.heap.size 1 (.slice o1 L.length k1) L.length (L.map Value.string) := by rw [← hwd]; exact hu1.alloc _
  have hu1l : ∀ i, (Value.slice o1 L.length k1).ownBlock = some i → wb.heap.size ≤ i ∧ i < wc.heap.size := fun i hi => hu1.ge i hi
  clear hwd hBc c0c hu0c hu1
  go_wp2_with fail
  refine (eqlevel_ret _ hu1d.at_ hu0d.at_ (by omega)).mono ?_
  rintro e we ⟨rfl, he⟩
  have hse := he.size
  have hBe := hB.trans (he.mono hB.size)
  have c0e : we.cell? ⟨wa.heap.size, 0, none⟩ = some (.slice o0 L.length k0) := (he.cell (p := ⟨wa.heap.size, 0, none⟩) (by show wa.heap.size < _; omega)).trans c0
  have c1e : we.cell? ⟨wc.heap.size, 0, none⟩ = some (.slice o1 L.length k1) := (he.cell (p := ⟨wc.heap.size, 0, none⟩) (by show wc.heap.size < _; omega)).trans c1
  have hu0e : Own we w.heap.size 1 (.slice o0 L.length k0) L.length (L.map Value.string) := hu0d.below he (fun i hi => (hu0d.ge i hi).2)
  have hu1e : Own we wb.heap.size 1 (.slice o1 L.length k1) L.length (L.map Value.string) := hu1d.below he (fun i hi => (hu1d.ge i hi).2)
  clear hB c0 c1 hu0d hu1d he
  go_wp2_with fail
  refine (marklevel_ret _ hu1e (by omega)).mono ?_
  rintro e wf ⟨rfl, hmf, hf⟩
  have hsf := hf.size
  have hBf := hBe.trans (hf.below hBe.size fun i hi => by have := (hu1l i hi).1; omega)
  have c0f : wf.cell? ⟨wa.heap.size, 0, none⟩ = some (.slice o0 L.length k0) := (Tch.cell hf (p := ⟨wa.heap.size, 0, none⟩) (by show wa.heap.size < _; omega) fun hi => by have h1 : wb.heap.size ≤ wa.heap.size := (hu1l _ hi).1; omega).trans c0e
  have c1f : wf.cell? ⟨wc.heap.size, 0, none⟩ = some (.slice o1 L.length k1) := (Tch.cell hf (p := ⟨wc.heap.size, 0, none⟩) (by show wc.heap.size < _; omega) fun hi => by have h1 : wc.heap.size < wc.heap.size := (hu1l _ hi).2; omega).trans c1e
  have hu0f : Own wf w.heap.size 1 (.slice o0 L.length k0) L.length (L.map Value.string) := hu0e.tch hf fun i hi hj => by have := hu0l i hi; have := (hu1l i hj).1; omega
  clear hBe c0e c1e hu0e hu1e hf
  go_wp2_with fail
  refine (heldlevel_ret _ hmf.at_ (by omega)).mono ?_
  rintro e wg ⟨rfl, hg⟩
  have hsg := hg.size
  have hBg := hBf.trans (hg.mono hBf.size)
  have c0g : wg.cell? ⟨wa.heap.size, 0, none⟩ = some (.slice o0 L.length k0) := (hg.cell (p := ⟨wa.heap.size, 0, none⟩) (by show wa.heap.size < _; omega)).trans c0f
  have c1g : wg.cell? ⟨wc.heap.size, 0, none⟩ = some (.slice o1 L.length k1) := (hg.cell (p := ⟨wc.heap.size, 0, none⟩) (by show wc.heap.size < _; omega)).trans c1f
  have hu0g : Own wg w.heap.size 1 (.slice o0 L.length k0) L.length (L.map Value.string) := hu0f.below hg (fun i hi => (hu0f.ge i hi).2)
  have hmg : Own wg wb.heap.size 1 (.slice o1 L.length k1) (marksS 1 L.length).length ((marksS 1 L.length).map Value.string) := hmf.below hg (fun i hi => (hmf.ge i hi).2)
  clear hBf c0f c1f hu0f hmf hg
  go_wp2_with fail
  refine (hI _ (ht.below hBg)).mono ?_
  rintro e wh ⟨u2, rfl, hu2, hh⟩
  obtain ⟨o2, k2, rfl⟩ := hu2.slice_
  have hsh := hh.size
  have hBh := hBg.trans (hh.mono hBg.size)
  have c0h : wh.cell? ⟨wa.heap.size, 0, none⟩ = some (.slice o0 L.length k0) := (hh.cell (p := ⟨wa.heap.size, 0, none⟩) (by show wa.heap.size < _; omega)).trans c0g
  have c1h : wh.cell? ⟨wc.heap.size, 0, none⟩ = some (.slice o1 L.length k1) := (hh.cell (p := ⟨wc.heap.size, 0, none⟩) (by show wc.heap.size < _; omega)).trans c1g
  have hu0h : Own wh w.heap.size 1 (.slice o0 L.length k0) L.length (L.map Value.string) := hu0g.below hh (fun i hi => (hu0g.ge i hi).2)
  have hmh : Own wh wb.heap.size 1 (.slice o1 L.length k1) (marksS 1 L.length).length ((marksS 1 L.length).map Value.string) := hmg.below hh (fun i hi => (hmg.ge i hi).2)
  clear hBg c0g c1g hu0g hmg hh
  go_upto_region 16 with (fail)
  generalize hwi : wh.alloc _ = wi
  have hB : Below w.heap.size w wi := by rw [← hwi]; exact hBh.alloc hBh.size _
  have c0 : wi.cell? ⟨wa.heap.size, 0, none⟩ = some (.slice o0 L.length k0) := by rw [← hwi]; exact cell_alloc_lt c0h _ (by show wa.heap.size < _; omega)
  have c1 : wi.cell? ⟨wc.heap.size, 0, none⟩ = some (.slice o1 L.length k1) := by rw [← hwi]; exact cell_alloc_lt c1h _ (by show wc.heap.size < _; omega)
  have c2 : wi.cell? ⟨wh.heap.size, 0, none⟩ = some (.slice o2 L.length k2) := by rw [← hwi]; exact World.cell?_alloc_new _ _ _ 0
  have si : wi.heap.size = wh.heap.size + 1 := by rw [← hwi]; simp
  have hu0i : Own wi w.heap.size 1 (.slice o0 L.length k0) L.length (L.map Value.string) := by rw [← hwi]; exact hu0h.alloc _
  have hmi : Own wi wb.heap.size 1 (.slice o1 L.length k1) (marksS 1 L.length).length ((marksS 1 L.length).map Value.string) := by rw [← hwi]; exact hmh.alloc _
  have hu2i : Own wi wg.heap.size 1 (.slice o2 L.length k2) L.length (L.map Value.string) := by rw [← hwi]; exact hu2.alloc _
  clear hwi hBh c0h c1h hu0h hmh hu2
  go_wp2_with fail
  refine (eqlevel_ret _ hu2i.at_ hu0i.at_ (by omega)).mono ?_
  rintro e wj ⟨rfl, hj⟩
  have hsj := hj.size
  have hBj := hB.trans (hj.mono hB.size)
  have c1j : wj.cell? ⟨wc.heap.size, 0, none⟩ = some (.slice o1 L.length k1) := (hj.cell (p := ⟨wc.heap.size, 0, none⟩) (by show wc.heap.size < _; omega)).trans c1
  have hmj : Own wj wb.heap.size 1 (.slice o1 L.length k1) (marksS 1 L.length).length ((marksS 1 L.length).map Value.string) := hmi.below hj (fun i hi => (hmi.ge i hi).2)
  clear hB c0 c1 c2 hu0i hmi hu2i hj
  go_wp2_with fail
  refine (heldlevel_ret _ hmj.at_ (by omega)).mono ?_
  rintro e wk ⟨rfl, hk⟩
  go_wp2_with fail
  go_ret
  exact ⟨rfl, hBj.trans (hk.mono hBj.size)⟩

def laidL : List (String × DataW Unit) := [("unicode/utf8.acceptRanges", Rows.laid_unicode_utf8_acceptRanges), ("unicode/utf8.first", Rows.laid_unicode_utf8_first)]
set_option maxRecDepth 100000 in
theorem lifted (os : Os) (started : os.Started) (H : Type) (enc : TypeId × Value → H) :
    ReturnsInHanded {} Tryd.checked os 4 .any (fun w args => (Rows.fnExactParseLevelSpec.pre enc Tryd.prog Tryd.f4 [] false w args ∧ laidMetH Tryd.prog laidL w) ∧ sizedMet enc Tryd.prog Tryd.f4 (OpenSpec.ofChange Rows.fnExactParseLevelSpec) false w args) (Rows.fnExactParseLevelSpec.post enc Tryd.prog Tryd.f4 false true false false) := by
  refine lift_shape (C := Tryd.checked) own_ started (by kernel_rfl) Tryd.func4
    (ChangeSpec.witness_shaped (enc := enc) (C := Tryd.checked) (os := os) (X := fun w _ => laidMetH Tryd.prog laidL w) false (World.laidAll Tryd.prog os laidL) #[.string ByteArray.empty] 8 (World.laidAll_os _ _ _)
      (World.shaped_of_ZipB (by kernel_rfl) (by kernel_rfl)) (by kernel_rfl) (by kernel_rfl) (by kernel_rfl)
      (by rw [MakeChecks.laidMetH_plain _ _ _ (by kernel_rfl)]; exact laidMet_laidAll _ (by kernel_rfl) (by kernel_rfl))) ?_
  intro W base args ds gs before hval0 hW hshape
  have hval : ∀ (j : Nat) t v, Tryd.f4.params[j]? = some t → args[j]? = some v → Value.okWide Tryd.prog W .any base t v := hval0
  have hW' := hW
  have htab : Mx W := Tryd.laysM146.s1_3 W hshape
  obtain ⟨p, q, hA0, hV, rfl, hfz, hnd⟩ := hW
  have hA : DataW.TrodAll enc Tryd.prog W 0 (fun _ => true) true Tryd.f4.params.toList args.toList ds p := hA0
  rw [Tryd.params4] at hA hval
  obtain ⟨v0, vs0, d0, ds0, p0, q0, hargs, rfl, rfl, h0, r0⟩ := trodAll_cons hA
  obtain ⟨rfl, rfl, rfl⟩ := trodAll_nil r0
  obtain rfl : args = #[v0] := by cases args; simp_all
  obtain ⟨a0, rfl, rfl, rfl, w0⟩ := open_string Tryd.underlying9 (hval 0 9 v0 rfl rfl) h0
  refine (walk W a0 w0 htab).mono fun e W' ⟨he, hb⟩ => ?_
  subst he
  exact ⟨_, rfl, law_post laidOut (by kernel_rfl) rfl rfl Tryd.underlying4 (fun gs' h => by subst h; rfl) hW' hb⟩

theorem closed_ : joinedFacts Tryd.prog 4 Tryd.f4 Rows.fnExactParseLevelSpec Rows.fnExactParseLevelRow = true := by
  unfold joinedFacts
  rw [mayEnter_, liftsFinal_, make_, laidOut_, mapsRowed_, stopsHeard_]
  kernel_rfl

theorem row_holds : Rows.FnExactParseLevelSaid :=
  OpenClaim.holds_of_wide 4 Tryd.f4 rfl rfl rfl rfl rfl rfl rfl ⟨rfl, rfl, rfl, rfl, rfl⟩ rfl rfl rfl rfl rfl (by kernel_rfl) Tryd.func4 closed_
    (of_decide_eq_true (by kernel_rfl)) (by unfold Func.isWrapper; first | (rw [if_pos (by decide +kernel)]; kernel_rfl) | (rw [if_neg (by decide +kernel)]; exact ⟨rfl, rfl⟩))
    (fun os started H enc _ => lifted os started H enc)
theorem proved : Rows.FnExactParseLevelCardSaid :=
  Claim7.holds_tied_plain_at .later [] [.data, .pinned] true (true, "e237502f62a1fcf744cbf13f53634d41c40dc214f60e4a1aaddad8da9800779b") false
    row_holds (fun _ h => by cases h) (by kernel_rfl) (fun _ h => by cases h) fnExactParseLevel_row_tie rfl ⟨rfl, rfl⟩ (by kernel_rfl) rfl
    (fun f fn hf hfn => by
      obtain rfl : f = 4 := Option.some.inj ((show Tryd.prog.funcNamed "loop.example/g03315/laws.FnExactParseLevel" = some 4 by kernel_rfl).symm.trans hf) |>.symm
      obtain rfl : fn = Tryd.f4 := (Option.some.inj (Tryd.func4.symm.trans hfn)).symm
      exact ⟨by kernel_rfl, fun j t ht => by
        rw [Tryd.params4] at ht
        have hm : t ∈ [9] := by simpa using Array.mem_of_getElem? ht
        have hall : ([9].all fun u => !Tryd.prog.wantsStandIn u) = true := by kernel_rfl
        exact (show Tryd.prog.wantsStandIn t = false by simpa using List.all_eq_true.1 hall t hm)⟩)
    (by kernel_rfl)
end Go.Proofs.YtiopbdodegopdaaDoor.fnExactParseLevel
