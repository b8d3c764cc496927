/- Texts Scg in one. -/
import Derived.Test.YtiopbdodegopdaaDoorKI
/- Guarded operations in a drawn region's schedule: carried out, or passed over; a schedule whose check is fast in long regions. -/
namespace Go.Proofs.YtiopbdodegopdaaDoor
open Go.RowKit
section
variable {P : Program} {ops : Array Oper} {Q : Exit → Act → World → Prop} {S : World → Prop} {k : Nat}
theorem sch_gd {i : Nat} {r : Sc} {o : Oper} {v : Value} {a : Act} {w : World} (hi : ops[i]? = some o) (hw : Region.wanted o (yielded ops a.tmps) = true)
    (hy : ∀ wx, S wx → (execOp a.eval o).run P wx = .ok (.value v) wx) (h : wpS P ops Q S r (a.put o.dst v) w) : wpS P ops Q S (.st i r) a w :=
  ⟨o, v, hi, .inl ⟨hw, hy⟩, h⟩
theorem sch_skip {i : Nat} {r : Sc} {o : Oper} {a : Act} {w : World} (hi : ops[i]? = some o) (hw : Region.wanted o (yielded ops a.tmps) = false) (h : wpS P ops Q S r (a.put o.dst undef) w) : wpS P ops Q S (.st i r) a w :=
  ⟨o, undef, hi, .inr ⟨hw, rfl⟩, h⟩
/-- what the listed ones wait for, added -/
def ancs (ops : Array Oper) : Nat → List Nat → List Nat
  | 0, l => l
  | f + 1, l => ancs ops f (l ++ (List.range ops.size).filter fun i => !l.contains i && l.any fun j => Region.waitsFor .any ops j i)
theorem reach_more {i j : Nat} (h : Region.waitsFor .any ops j i = true) : ∀ (f k : Nat), reachB ops f j k = true → reachB ops (f + 1) i k = true
  | 0, k, hr => by
    obtain ⟨oj, h1, _⟩ := Region.waitsFor_spec h
    have hj : j < ops.size := (Array.getElem?_eq_some_iff.1 h1).1
    simp only [reachB, Bool.or_eq_true]
    exact .inr (List.any_eq_true.2 ⟨j, List.mem_range.2 hj, by rw [Bool.and_eq_true]; exact ⟨hr, h⟩⟩)
  | f + 1, k, hr => by
    rw [reachB, Bool.or_eq_true] at hr
    rw [reachB, Bool.or_eq_true]
    rcases hr with hr | hr
    · obtain ⟨oj, h1, _⟩ := Region.waitsFor_spec h
      have hj : j < ops.size := (Array.getElem?_eq_some_iff.1 h1).1
      refine .inr (List.any_eq_true.2 ⟨j, List.mem_range.2 hj, ?_⟩)
      rw [Bool.and_eq_true]
      refine ⟨hr, ?_⟩
      simp only [reachB, Bool.or_eq_true]
      exact .inl h
    · obtain ⟨m, hm, h2⟩ := List.any_eq_true.1 hr
      rw [Bool.and_eq_true] at h2
      exact .inr (List.any_eq_true.2 ⟨m, hm, by rw [Bool.and_eq_true]; exact ⟨h2.1, reach_more h f m h2.2⟩⟩)
theorem ancs_reach : ∀ (f : Nat) (l : List Nat), (∀ j ∈ l, j = k ∨ ∃ f0, reachB ops f0 j k = true) → ∀ i ∈ ancs ops f l, i = k ∨ ∃ f0, reachB ops f0 i k = true
  | 0, _, h, i, hi => h i hi
  | f + 1, l, h, i, hi => by
    rw [ancs] at hi
    refine ancs_reach f _ (fun j hj => ?_) i hi
    rcases List.mem_append.1 hj with hj | hj
    · exact h j hj
    · have hq := (List.mem_filter.1 hj).2
      simp only [Bool.and_eq_true] at hq
      obtain ⟨m, hm, hw⟩ := List.any_eq_true.1 hq.2
      rcases h m hm with rfl | ⟨f0, hr⟩
      · exact .inr ⟨0, hw⟩
      · exact .inr ⟨f0 + 1, reach_more hw f0 k hr⟩
/-- the schedule, checked; an: what operation k waits for -/
def schB2 (ops : Array Oper) (k : Nat) (an : List Nat) : Sc → Array Bool → Bool
  | .fin e, listed => (match e with | [] => false | i :: _ => i == k) && seqL ops e listed
  | .st i r, listed => (Region.ready .any ops listed).contains i && (Region.free .any ops listed i && (i != k && (an.contains i && schB2 ops k an r (listed.setIfInBounds i true))))
  | .sw i r, listed => (Region.ready .any ops listed).contains i && (Region.free .any ops listed i && (i != k && schB2 ops k an r (listed.setIfInBounds i true)))
  | .ef i r, listed => decide (Region.ready .any ops listed = [i]) && (i != k && schB2 ops k an r (listed.setIfInBounds i true))
  | .two i r j s, listed => decide (Region.ready .any ops listed = [i, j]) && (i != k && (j != k && (decide (r.len = s.len) && (schB2 ops k an r (listed.setIfInBounds i true) && schB2 ops k an s (listed.setIfInBounds j true)))))
  | .three i r j s m t, listed => decide (Region.ready .any ops listed = [i, j, m]) && (i != k && (j != k && (m != k && (decide (r.len = s.len ∧ r.len = t.len) && (schB2 ops k an r (listed.setIfInBounds i true) && (schB2 ops k an s (listed.setIfInBounds j true) && schB2 ops k an t (listed.setIfInBounds m true)))))))
theorem wpG_of_S2 {an : List Nat} (han : ∀ i, i ∈ an → ∃ f, reachB ops f i k = true) (hsel : Region.noSelect ops = true) (hQ : ∀ c a d v w, Q (.panic c) (a.put d v) w → Q (.panic c) a w) : ∀ (r : Sc) (listed : Array Bool) (a : Act) (w : World),
    schB2 ops k an r listed = true → Closed ops listed → listed.size = ops.size → listed.getD k true = false → S w → wpS P ops Q S r a w → wpG P ops Q S k r.len listed a w
  | .fin e, listed, a, w, hB, _, hsz, _, _, ⟨l, hp, h⟩ => by
    simp only [schB2, Bool.and_eq_true] at hB
    have hh : e.head? = some k := by
      cases e with
      | nil => simp at hB
      | cons i e => simp at hB; simp [hB.1]
    exact wpG_of_seq listed a w hp hB.2 hsz (.inl hh) h
  | .st i r, listed, a, w, hB, hc, hsz, hk, hS, ⟨o, v, hi, hy, h⟩ => by
    simp only [schB2, Bool.and_eq_true, bne_iff_ne, ne_eq] at hB
    obtain ⟨hr, hf, hik, hre, hB⟩ := hB
    have hr' : i ∈ Region.ready .any ops listed := by simpa using hr
    have := wpG_of_S2 han hsel hQ r _ _ _ hB (hc.set hr') (by simpa using hsz) (by rw [getD_set_ne true hik]; exact hk) hS h
    obtain ⟨f0, hre⟩ := han i (by simpa using hre)
    exact wpG_first (S := S) hi (Region.noSelect_spec hsel) (fun c a w => hQ c a o.dst v w) hik hre _ listed a w (Region.free_spec hi hf) hr' hy hS hc hk this
  | .sw i r, listed, a, w, hB, hc, hsz, hk, hS, ⟨o, v, hi, hy, h⟩ => by
    simp only [schB2, Bool.and_eq_true, bne_iff_ne, ne_eq] at hB
    obtain ⟨hr, hf, hik, hB⟩ := hB
    have hr' : i ∈ Region.ready .any ops listed := by simpa using hr
    have := wpG_of_S2 han hsel hQ r _ _ _ hB (hc.set hr') (by simpa using hsz) (by rw [getD_set_ne true hik]; exact hk) hS h
    exact wpG_first0 (S := S) hi (Region.noSelect_spec hsel) (fun c a w => hQ c a o.dst v w) hik _ listed a w (Region.free_spec hi hf) hr' hy (fun _ => hS) this
  | .ef i r, listed, a, w, hB, hc, hsz, hk, hS, h => by
    simp only [schB2, Bool.and_eq_true, decide_eq_true_eq, bne_iff_ne, ne_eq] at hB
    obtain ⟨hr, hik, hB⟩ := hB
    have hr' : i ∈ Region.ready .any ops listed := by rw [hr]; simp
    refine And.intro (fun h1 => by rw [hr] at h1; cases h1) (fun j hj => ?_)
    rw [hr] at hj
    have hji : j = i := by simpa using hj
    subst hji
    exact wpOp_mono (fun a' w' h' => ⟨fun _ => h'.1, wpG_of_S2 han hsel hQ r _ _ _ hB (hc.set hr') (by simpa using hsz) (by rw [getD_set_ne true hik]; exact hk) h'.1 h'.2⟩) h
  | .two i r j s, listed, a, w, hB, hc, hsz, hk, hS, ⟨h1, h2⟩ => by
    simp only [schB2, Bool.and_eq_true, decide_eq_true_eq, bne_iff_ne, ne_eq] at hB
    obtain ⟨hr, hik, hjk, hl, hB1, hB2⟩ := hB
    have hi' : i ∈ Region.ready .any ops listed := by rw [hr]; simp
    have hj' : j ∈ Region.ready .any ops listed := by rw [hr]; simp
    refine And.intro (fun h1 => by rw [hr] at h1; cases h1) (fun q hq => ?_)
    rw [hr] at hq
    have hqq : q = i ∨ q = j := by simpa using hq
    rcases hqq with hqq | hqq
    · subst hqq
      exact wpOp_mono (fun a' w' h' => ⟨fun _ => h'.1, wpG_of_S2 han hsel hQ r _ _ _ hB1 (hc.set hi') (by simpa using hsz) (by rw [getD_set_ne true hik]; exact hk) h'.1 h'.2⟩) h1
    · subst hqq
      refine wpOp_mono (fun a' w' h' => ⟨fun _ => h'.1, ?_⟩) h2
      rw [hl]
      exact wpG_of_S2 han hsel hQ s _ _ _ hB2 (hc.set hj') (by simpa using hsz) (by rw [getD_set_ne true hjk]; exact hk) h'.1 h'.2
  | .three i r j s m t, listed, a, w, hB, hc, hsz, hk, hS, ⟨h1, h2, h3⟩ => by
    simp only [schB2, Bool.and_eq_true, decide_eq_true_eq, bne_iff_ne, ne_eq] at hB
    obtain ⟨hr, hik, hjk, hmk, ⟨hl, hl2⟩, hB1, hB2, hB3⟩ := hB
    have hi' : i ∈ Region.ready .any ops listed := by rw [hr]; simp
    have hj' : j ∈ Region.ready .any ops listed := by rw [hr]; simp
    have hm' : m ∈ Region.ready .any ops listed := by rw [hr]; simp
    refine And.intro (fun h1 => by rw [hr] at h1; cases h1) (fun q hq => ?_)
    rw [hr] at hq
    have hqq : q = i ∨ q = j ∨ q = m := by simpa using hq
    rcases hqq with hqq | hqq | hqq
    · subst hqq
      exact wpOp_mono (fun a' w' h' => ⟨fun _ => h'.1, wpG_of_S2 han hsel hQ r _ _ _ hB1 (hc.set hi') (by simpa using hsz) (by rw [getD_set_ne true hik]; exact hk) h'.1 h'.2⟩) h1
    · subst hqq
      refine wpOp_mono (fun a' w' h' => ⟨fun _ => h'.1, ?_⟩) h2
      rw [hl]
      exact wpG_of_S2 han hsel hQ s _ _ _ hB2 (hc.set hj') (by simpa using hsz) (by rw [getD_set_ne true hjk]; exact hk) h'.1 h'.2
    · subst hqq
      refine wpOp_mono (fun a' w' h' => ⟨fun _ => h'.1, ?_⟩) h3
      rw [hl2]
      exact wpG_of_S2 han hsel hQ t _ _ _ hB3 (hc.set hm') (by simpa using hsz) (by rw [getD_set_ne true hmk]; exact hk) h'.1 h'.2
def schOk2 (ops : Array Oper) (k : Nat) (an : List Nat) (r : Sc) : Bool :=
  Region.noSelect ops && (decide (k < ops.size) && (decide (r.len = ops.size) && (an.all (fun i => (ancs ops ops.size [k]).contains i && i != k) && schB2 ops k an r (Array.replicate ops.size false))))
/-- the law -/
theorem wp_region_sch2 {id : Nat} {a : Act} {w : World} (S : World → Prop) (k : Nat) (an : List Nat) (r : Sc) (hm : P.follows .mixedOrders = true) (hB : schOk2 ops k an r = true)
    (hQ : ∀ c a d v w, Q (.panic c) (a.put d v) w → Q (.panic c) a w) (hS : S w.drew) (h : wpS P ops Q S r a w.drew) : (Code.region id ops true).wp P Q a w := by
  simp only [schOk2, Bool.and_eq_true, decide_eq_true_eq] at hB
  obtain ⟨hsel, hk, hl, han, hB⟩ := hB
  refine wp_region_any hm ?_
  have han' : ∀ i, i ∈ an → ∃ f, reachB ops f i k = true := fun i hi => by
    have hq := List.all_eq_true.1 han i hi
    simp only [Bool.and_eq_true, bne_iff_ne, ne_eq] at hq
    have h := ancs_reach (ops := ops) (k := k) ops.size [k] (fun j hj => .inl (by simpa using hj)) i (by simpa using hq.1)
    rcases h with h | h
    · exact absurd h hq.2
    · exact h
  have := wpG_of_S2 (S := S) han' hsel hQ r (Array.replicate ops.size false) a w.drew hB (fun j oj _ hl => by rw [getD_replicate_false] at hl; cases hl) (by simp) (getD_in (by simpa using hk) (getD_replicate_false _ _)) hS h
  rw [hl] at this
  exact wpAny_of_G _ _ _ _ this
end
end Go.Proofs.YtiopbdodegopdaaDoor
