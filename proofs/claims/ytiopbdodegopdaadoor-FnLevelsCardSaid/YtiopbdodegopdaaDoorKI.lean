/- Texts Sch, Sc2, Wsz, Wst in one. -/
import Derived.Test.YtiopbdodegopdaaDoorKB
import Derived.Test.YtiopbdodegopdaaDoorKG
import Derived.OrdersHeld
import Derived.StillTail
import Derived.WalkKit
import Derived.KernelRfl
import Derived.Deep.MidRow
import Derived.Great.BuildSlice
import Derived.Great.Walk
/- A region that draws its order, walked in one order: what only reads is taken first, under a condition on the world that holds until operation k is carried out; what turns the world comes up by itself. Plain laws over any program. -/
namespace Go.Proofs.YtiopbdodegopdaaDoor
open Go.RowKit
section
variable {P : Program} {ops : Array Oper} {Q : Exit → Act → World → Prop} {S : World → Prop} {k : Nat}

/-- j waits for i, through at most f others -/
def reachB (ops : Array Oper) : Nat → Nat → Nat → Bool
  | 0, i, j => Region.waitsFor .any ops j i
  | f + 1, i, j => Region.waitsFor .any ops j i || (List.range ops.size).any fun m => Region.waitsFor .any ops j m && reachB ops f i m
def Closed (ops : Array Oper) (listed : Array Bool) : Prop := ∀ j oj, ops[j]? = some oj → listed.getD j false = true → ∀ e ∈ oj.after, Region.binds .any e = true → listed.getD e.on false = true
theorem reach_wait {i : Nat} {listed : Array Bool} (hc : Closed ops listed) (hu : listed.getD i false = false) : ∀ (f j : Nat), reachB ops f i j = true → ∃ oj, ops[j]? = some oj ∧ ∃ e ∈ oj.after, Region.binds .any e = true ∧ listed.getD e.on false = false
  | 0, j, h => by
    obtain ⟨oj, h1, e, he, hb, hon⟩ := Region.waitsFor_spec (show Region.waitsFor .any ops j i = true from h)
    exact ⟨oj, h1, e, he, hb, by rw [hon]; exact hu⟩
  | f + 1, j, h => by
    simp only [reachB, Bool.or_eq_true] at h
    rcases h with h | h
    · obtain ⟨oj, h1, e, he, hb, hon⟩ := Region.waitsFor_spec h
      exact ⟨oj, h1, e, he, hb, by rw [hon]; exact hu⟩
    · obtain ⟨m, _, h2⟩ := List.any_eq_true.1 h
      simp only [Bool.and_eq_true] at h2
      obtain ⟨oj, h1, e, he, hb, hon⟩ := Region.waitsFor_spec h2.1
      obtain ⟨om, h3, e', he', hb', hon'⟩ := reach_wait hc hu f m h2.2
      refine ⟨oj, h1, e, he, hb, ?_⟩
      rw [hon]
      cases hm : listed.getD m false with
      | false => rfl
      | true => have := hc m om h3 hm e' he' hb'; rw [hon'] at this; cases this
theorem reach_not {i f j : Nat} {listed : Array Bool} (hc : Closed ops listed) (hu : listed.getD i false = false) (h : reachB ops f i j = true) : j ∉ Region.ready .any ops listed := by
  intro hr
  obtain ⟨_, oj, hoj, hall⟩ := mem_ready.1 hr
  obtain ⟨o', ho', e, he, hb, hon⟩ := reach_wait hc hu f j h
  have : o' = oj := Option.some.inj (ho'.symm.trans hoj)
  subst this
  have := hall e he hb
  rw [hon] at this
  cases this
theorem Closed.set {i : Nat} {listed : Array Bool} (hc : Closed ops listed) (hi : i ∈ Region.ready .any ops listed) : Closed ops (listed.setIfInBounds i true) := by
  obtain ⟨_, oi, hoi, hall⟩ := mem_ready.1 hi
  intro j oj hj hl e he hb
  by_cases hij : i = j
  · subst hij
    have : oj = oi := Option.some.inj (hj.symm.trans hoi)
    subst this
    exact getD_set_true (hall e he hb)
  · rw [getD_set_ne false hij] at hl
    exact getD_set_true (hc j oj hj hl e he hb)
/-- Whatever order is picked from here on, and S holds behind every operation that is carried out, until number k has come up. -/
def wpG (P : Program) (ops : Array Oper) (Q : Exit → Act → World → Prop) (S : World → Prop) (k : Nat) : Nat → Array Bool → Act → World → Prop
  | 0, listed, a, w => Region.ready .any ops listed = [] ∧ Q .normal a w
  | fuel + 1, listed, a, w =>
    (Region.ready .any ops listed = [] → Q .normal a w) ∧
    ∀ i ∈ Region.ready .any ops listed, wpOp P ops Q i (fun a' w' => ((listed.setIfInBounds i true).getD k true = false → S w') ∧ wpG P ops Q S k fuel (listed.setIfInBounds i true) a' w') a w
theorem wpAny_of_G : ∀ (fuel : Nat) (listed : Array Bool) (a : Act) (w : World), wpG P ops Q S k fuel listed a w → wpAny P .any ops Q fuel listed a w
  | 0, _, _, _, h => h
  | fuel + 1, _, _, _, h => ⟨h.1, fun i hi => wpOp_mono (fun a' w' h' => wpAny_of_G fuel _ a' w' h'.2) (h.2 i hi)⟩
theorem wpG_first {i f0 : Nat} {oi : Oper} {v : Value} (hi : ops[i]? = some oi) (hsel : ∀ (j : Nat) (o : Oper) cs b, ops[j]? = some o → o.op ≠ .select cs b)
    (hQ : ∀ c a w, Q (.panic c) (a.put oi.dst v) w → Q (.panic c) a w) (hik : i ≠ k) (hre : reachB ops f0 i k = true) :
    ∀ (fuel : Nat) (listed : Array Bool) (a : Act) (w : World),
      (∀ j oj, ops[j]? = some oj → j ≠ i → listed.getD j true = false → (∀ e ∈ oj.after, Region.binds .any e = true → e.on ≠ i) → oi.apart ops oj = true) →
      i ∈ Region.ready .any ops listed → YieldsIf P ops S oi v a → S w → Closed ops listed → listed.getD k true = false →
      wpG P ops Q S k fuel (listed.setIfInBounds i true) (a.put oi.dst v) w → wpG P ops Q S k (fuel + 1) listed a w := by
  intro fuel
  induction fuel with
  | zero =>
    intro listed a w _ hr hy hS _ _ H
    refine ⟨fun h => (by rw [h] at hr; cases hr), fun j hj => ?_⟩
    by_cases hji : j = i
    · subst hji; exact hy.wpOp hi hS ⟨fun _ => hS, H⟩
    · have := ready_mono hj hji
      rw [H.1] at this
      cases this
  | succ fuel ih =>
    intro listed a w hfree hr hy hS hc hk H
    refine ⟨fun h => (by rw [h] at hr; cases hr), fun j hj => ?_⟩
    by_cases hji : j = i
    · subst hji; exact hy.wpOp hi hS ⟨fun _ => hS, H⟩
    · have h1 := H.2 j (ready_mono hj hji)
      have hun := (mem_ready.1 hr).1
      have hjk : j ≠ k := fun e => by subst e; exact reach_not hc (getD_both hun) hre hj
      obtain ⟨hjun, oj, hoj, hall⟩ := mem_ready.1 hj
      have hnot : ∀ e ∈ oj.after, Region.binds .any e = true → e.on ≠ i := fun e he hb heq => by
        have h1 := hall e he hb
        rw [heq, getD_both hun] at h1
        cases h1
      have h2 := wpOp_putIf hoj (hfree j oj hoj hji hjun hnot) (fun cs b => hsel i oi cs b hi) (fun cs b => hsel j oj cs b hoj) hQ hy h1
      have hfree' : ∀ k ok, ops[k]? = some ok → k ≠ i → (listed.setIfInBounds j true).getD k true = false →
          (∀ e ∈ ok.after, Region.binds .any e = true → e.on ≠ i) → oi.apart ops ok = true := fun k ok hk hki hun hno => by
        refine hfree k ok hk hki ?_ hno
        by_cases hjk : j = k
        · subst hjk; exact hjun
        · rw [getD_set_ne true hjk] at hun; exact hun
      refine wpOp_mono (fun a' w' h3 => ?_) h2
      have hkk : ((listed.setIfInBounds i true).setIfInBounds j true).getD k true = false := by rw [getD_set_ne true hjk, getD_set_ne true hik]; exact hk
      have hkj : (listed.setIfInBounds j true).getD k true = false := by rw [getD_set_ne true hjk]; exact hk
      have hS' := h3.2.1 hkk
      refine ⟨fun _ => hS', ih (listed.setIfInBounds j true) a' w' hfree' (ready_mono hr (Ne.symm hji)) h3.1 hS' (hc.set hj) hkj ?_⟩
      rw [Array.setIfInBounds_comm _ _ hji]
      exact h3.2.2
/-- .. and an operation that yields its value in whatever world -/
theorem wpG_first0 {i : Nat} {oi : Oper} {v : Value} (hi : ops[i]? = some oi) (hsel : ∀ (j : Nat) (o : Oper) cs b, ops[j]? = some o → o.op ≠ .select cs b)
    (hQ : ∀ c a w, Q (.panic c) (a.put oi.dst v) w → Q (.panic c) a w) (hik : i ≠ k) :
    ∀ (fuel : Nat) (listed : Array Bool) (a : Act) (w : World),
      (∀ j oj, ops[j]? = some oj → j ≠ i → listed.getD j true = false → (∀ e ∈ oj.after, Region.binds .any e = true → e.on ≠ i) → oi.apart ops oj = true) →
      i ∈ Region.ready .any ops listed → YieldsIf P ops (fun _ => True) oi v a → (listed.getD k true = false → S w) →
      wpG P ops Q S k fuel (listed.setIfInBounds i true) (a.put oi.dst v) w → wpG P ops Q S k (fuel + 1) listed a w := by
  intro fuel
  induction fuel with
  | zero =>
    intro listed a w _ hr hy hS H
    refine ⟨fun h => (by rw [h] at hr; cases hr), fun j hj => ?_⟩
    by_cases hji : j = i
    · subst hji; exact hy.wpOp hi trivial ⟨fun h => hS (by rw [getD_set_ne true hik] at h; exact h), H⟩
    · have := ready_mono hj hji
      rw [H.1] at this
      cases this
  | succ fuel ih =>
    intro listed a w hfree hr hy hS H
    refine ⟨fun h => (by rw [h] at hr; cases hr), fun j hj => ?_⟩
    by_cases hji : j = i
    · subst hji; exact hy.wpOp hi trivial ⟨fun h => hS (by rw [getD_set_ne true hik] at h; exact h), H⟩
    · have h1 := H.2 j (ready_mono hj hji)
      have hun := (mem_ready.1 hr).1
      obtain ⟨hjun, oj, hoj, hall⟩ := mem_ready.1 hj
      have hnot : ∀ e ∈ oj.after, Region.binds .any e = true → e.on ≠ i := fun e he hb heq => by
        have h1 := hall e he hb
        rw [heq, getD_both hun] at h1
        cases h1
      have h2 := wpOp_putIf hoj (hfree j oj hoj hji hjun hnot) (fun cs b => hsel i oi cs b hi) (fun cs b => hsel j oj cs b hoj) hQ hy h1
      have hfree' : ∀ k ok, ops[k]? = some ok → k ≠ i → (listed.setIfInBounds j true).getD k true = false →
          (∀ e ∈ ok.after, Region.binds .any e = true → e.on ≠ i) → oi.apart ops ok = true := fun k ok hk hki hun hno => by
        refine hfree k ok hk hki ?_ hno
        by_cases hjk : j = k
        · subst hjk; exact hjun
        · rw [getD_set_ne true hjk] at hun; exact hun
      refine wpOp_mono (fun a' w' h3 => ?_) h2
      have hS' : (listed.setIfInBounds j true).getD k true = false → S w' := fun h => h3.2.1 (by rw [Array.setIfInBounds_comm _ _ (Ne.symm hji), getD_set_ne true hik]; exact h)
      refine ⟨hS', ih (listed.setIfInBounds j true) a' w' hfree' (ready_mono hr (Ne.symm hji)) h3.1 hS' ?_⟩
      rw [Array.setIfInBounds_comm _ _ hji]
      exact h3.2.2
/-- one after the other -/
def seqL (ops : Array Oper) : List Nat → Array Bool → Bool
  | [], listed => (Region.ready .any ops listed).isEmpty
  | i :: e, listed => decide (Region.ready .any ops listed = [i]) && seqL ops e (listed.setIfInBounds i true)
inductive Picks (ops : Array Oper) : List Nat → List Oper → Prop where
  | nil : Picks ops [] []
  | cons {i : Nat} {o : Oper} {e : List Nat} {l : List Oper} (h : ops[i]? = some o) (t : Picks ops e l) : Picks ops (i :: e) (o :: l)
theorem getD_set_self {listed : Array Bool} {i : Nat} (d : Bool) (h : i < listed.size) : (listed.setIfInBounds i true).getD i d = true := by simp [h]
theorem wpG_of_seq : ∀ {e : List Nat} {l : List Oper} (listed : Array Bool) (a : Act) (w : World), Picks ops e l → seqL ops e listed = true → listed.size = ops.size →
    (e.head? = some k ∨ listed.getD k true = true) → wpList P ops Q l a w → wpG P ops Q S k e.length listed a w
  | [], _, listed, a, w, .nil, hB, _, _, h => ⟨by simpa [seqL] using hB, h⟩
  | i :: e, o :: l, listed, a, w, .cons hi t, hB, hsz, hk, h => by
    simp only [seqL, Bool.and_eq_true, decide_eq_true_eq] at hB
    refine And.intro (fun h1 => by rw [hB.1] at h1; cases h1) (fun j hj => ?_)
    rw [hB.1] at hj
    have hji : j = i := by simpa using hj
    subst hji
    have hlt : j < listed.size := by rw [hsz]; exact (Array.getElem?_eq_some_iff.1 hi).1
    have hk' : (listed.setIfInBounds j true).getD k true = true := by
      rcases hk with hk | hk
      · simp only [List.head?_cons, Option.some.injEq] at hk
        subst hk
        exact getD_set_self true hlt
      · by_cases e : j = k
        · subst e; exact getD_set_self true hlt
        · rw [getD_set_ne true e]; exact hk
    have hw : wpOp P ops Q j (wpList P ops Q l) a w := by unfold wpOp; simp only [hi]; exact h
    exact wpOp_mono (fun a' w' h' => ⟨fun e => (by rw [hk'] at e; cases e), wpG_of_seq _ a' w' t hB.2 (by simpa using hsz) (.inr hk') h'⟩) hw
/-- A schedule: what comes up next: by itself (st: it only reads; ef: whatever it does), or one of two, one of three. -/
inductive Sc where
  | fin (e : List Nat)
  | st (i : Nat) (r : Sc)
  | sw (i : Nat) (r : Sc)
  | ef (i : Nat) (r : Sc)
  | two (i : Nat) (r : Sc) (j : Nat) (s : Sc)
  | three (i : Nat) (r : Sc) (j : Nat) (s : Sc) (m : Nat) (t : Sc)
def Sc.len : Sc → Nat
  | .fin e => e.length
  | .st _ r => r.len + 1
  | .sw _ r => r.len + 1
  | .ef _ r => r.len + 1
  | .two _ r _ _ => r.len + 1
  | .three _ r _ _ _ _ => r.len + 1
/-- the schedule, checked -/
def schB (ops : Array Oper) (k f0 : Nat) : Sc → Array Bool → Bool
  | .fin e, listed => (match e with | [] => false | i :: _ => i == k) && seqL ops e listed
  | .st i r, listed => (Region.ready .any ops listed).contains i && (Region.free .any ops listed i && (i != k && (reachB ops f0 i k && schB ops k f0 r (listed.setIfInBounds i true))))
  | .sw i r, listed => (Region.ready .any ops listed).contains i && (Region.free .any ops listed i && (i != k && schB ops k f0 r (listed.setIfInBounds i true)))
  | .ef i r, listed => decide (Region.ready .any ops listed = [i]) && (i != k && schB ops k f0 r (listed.setIfInBounds i true))
  | .two i r j s, listed => decide (Region.ready .any ops listed = [i, j]) && (i != k && (j != k && (decide (r.len = s.len) && (schB ops k f0 r (listed.setIfInBounds i true) && schB ops k f0 s (listed.setIfInBounds j true)))))
  | .three i r j s m t, listed => decide (Region.ready .any ops listed = [i, j, m]) && (i != k && (j != k && (m != k && (decide (r.len = s.len ∧ r.len = t.len) && (schB ops k f0 r (listed.setIfInBounds i true) && (schB ops k f0 s (listed.setIfInBounds j true) && schB ops k f0 t (listed.setIfInBounds m true)))))))
def wpS (P : Program) (ops : Array Oper) (Q : Exit → Act → World → Prop) (S : World → Prop) : Sc → Act → World → Prop
  | .fin e, a, w => ∃ l, Picks ops e l ∧ wpList P ops Q l a w
  | .st i r, a, w => ∃ o v, ops[i]? = some o ∧ YieldsIf P ops S o v a ∧ wpS P ops Q S r (a.put o.dst v) w
  | .sw i r, a, w => ∃ o v, ops[i]? = some o ∧ YieldsIf P ops (fun _ => True) o v a ∧ wpS P ops Q S r (a.put o.dst v) w
  | .ef i r, a, w => wpOp P ops Q i (fun a' w' => S w' ∧ wpS P ops Q S r a' w') a w
  | .two i r j s, a, w => wpOp P ops Q i (fun a' w' => S w' ∧ wpS P ops Q S r a' w') a w ∧ wpOp P ops Q j (fun a' w' => S w' ∧ wpS P ops Q S s a' w') a w
  | .three i r j s m t, a, w => wpOp P ops Q i (fun a' w' => S w' ∧ wpS P ops Q S r a' w') a w ∧ wpOp P ops Q j (fun a' w' => S w' ∧ wpS P ops Q S s a' w') a w ∧ wpOp P ops Q m (fun a' w' => S w' ∧ wpS P ops Q S t a' w') a w
theorem wpG_of_S {f0 : Nat} (hsel : Region.noSelect ops = true) (hQ : ∀ c a d v w, Q (.panic c) (a.put d v) w → Q (.panic c) a w) : ∀ (r : Sc) (listed : Array Bool) (a : Act) (w : World),
    schB ops k f0 r listed = true → Closed ops listed → listed.size = ops.size → listed.getD k true = false → S w → wpS P ops Q S r a w → wpG P ops Q S k r.len listed a w
  | .fin e, listed, a, w, hB, _, hsz, _, _, ⟨l, hp, h⟩ => by
    simp only [schB, Bool.and_eq_true] at hB
    have hh : e.head? = some k := by
      cases e with
      | nil => simp at hB
      | cons i e => simp at hB; simp [hB.1]
    exact wpG_of_seq listed a w hp hB.2 hsz (.inl hh) h
  | .st i r, listed, a, w, hB, hc, hsz, hk, hS, ⟨o, v, hi, hy, h⟩ => by
    simp only [schB, Bool.and_eq_true, bne_iff_ne, ne_eq] at hB
    obtain ⟨hr, hf, hik, hre, hB⟩ := hB
    have hr' : i ∈ Region.ready .any ops listed := by simpa using hr
    have := wpG_of_S hsel hQ r _ _ _ hB (hc.set hr') (by simpa using hsz) (by rw [getD_set_ne true hik]; exact hk) hS h
    exact wpG_first (S := S) hi (Region.noSelect_spec hsel) (fun c a w => hQ c a o.dst v w) hik hre _ listed a w (Region.free_spec hi hf) hr' hy hS hc hk this
  | .sw i r, listed, a, w, hB, hc, hsz, hk, hS, ⟨o, v, hi, hy, h⟩ => by
    simp only [schB, Bool.and_eq_true, bne_iff_ne, ne_eq] at hB
    obtain ⟨hr, hf, hik, hB⟩ := hB
    have hr' : i ∈ Region.ready .any ops listed := by simpa using hr
    have := wpG_of_S hsel hQ r _ _ _ hB (hc.set hr') (by simpa using hsz) (by rw [getD_set_ne true hik]; exact hk) hS h
    exact wpG_first0 (S := S) hi (Region.noSelect_spec hsel) (fun c a w => hQ c a o.dst v w) hik _ listed a w (Region.free_spec hi hf) hr' hy (fun _ => hS) this
  | .ef i r, listed, a, w, hB, hc, hsz, hk, hS, h => by
    simp only [schB, Bool.and_eq_true, decide_eq_true_eq, bne_iff_ne, ne_eq] at hB
    obtain ⟨hr, hik, hB⟩ := hB
    have hr' : i ∈ Region.ready .any ops listed := by rw [hr]; simp
    refine And.intro (fun h1 => by rw [hr] at h1; cases h1) (fun j hj => ?_)
    rw [hr] at hj
    have hji : j = i := by simpa using hj
    subst hji
    exact wpOp_mono (fun a' w' h' => ⟨fun _ => h'.1, wpG_of_S hsel hQ r _ _ _ hB (hc.set hr') (by simpa using hsz) (by rw [getD_set_ne true hik]; exact hk) h'.1 h'.2⟩) h
  | .two i r j s, listed, a, w, hB, hc, hsz, hk, hS, ⟨h1, h2⟩ => by
    simp only [schB, Bool.and_eq_true, decide_eq_true_eq, bne_iff_ne, ne_eq] at hB
    obtain ⟨hr, hik, hjk, hl, hB1, hB2⟩ := hB
    have hi' : i ∈ Region.ready .any ops listed := by rw [hr]; simp
    have hj' : j ∈ Region.ready .any ops listed := by rw [hr]; simp
    refine And.intro (fun h1 => by rw [hr] at h1; cases h1) (fun q hq => ?_)
    rw [hr] at hq
    have hqq : q = i ∨ q = j := by simpa using hq
    rcases hqq with hqq | hqq
    · subst hqq
      exact wpOp_mono (fun a' w' h' => ⟨fun _ => h'.1, wpG_of_S hsel hQ r _ _ _ hB1 (hc.set hi') (by simpa using hsz) (by rw [getD_set_ne true hik]; exact hk) h'.1 h'.2⟩) h1
    · subst hqq
      refine wpOp_mono (fun a' w' h' => ⟨fun _ => h'.1, ?_⟩) h2
      rw [hl]
      exact wpG_of_S hsel hQ s _ _ _ hB2 (hc.set hj') (by simpa using hsz) (by rw [getD_set_ne true hjk]; exact hk) h'.1 h'.2
  | .three i r j s m t, listed, a, w, hB, hc, hsz, hk, hS, ⟨h1, h2, h3⟩ => by
    simp only [schB, Bool.and_eq_true, decide_eq_true_eq, bne_iff_ne, ne_eq] at hB
    obtain ⟨hr, hik, hjk, hmk, ⟨hl, hl2⟩, hB1, hB2, hB3⟩ := hB
    have hi' : i ∈ Region.ready .any ops listed := by rw [hr]; simp
    have hj' : j ∈ Region.ready .any ops listed := by rw [hr]; simp
    have hm' : m ∈ Region.ready .any ops listed := by rw [hr]; simp
    refine And.intro (fun h1 => by rw [hr] at h1; cases h1) (fun q hq => ?_)
    rw [hr] at hq
    have hqq : q = i ∨ q = j ∨ q = m := by simpa using hq
    rcases hqq with hqq | hqq | hqq
    · subst hqq
      exact wpOp_mono (fun a' w' h' => ⟨fun _ => h'.1, wpG_of_S hsel hQ r _ _ _ hB1 (hc.set hi') (by simpa using hsz) (by rw [getD_set_ne true hik]; exact hk) h'.1 h'.2⟩) h1
    · subst hqq
      refine wpOp_mono (fun a' w' h' => ⟨fun _ => h'.1, ?_⟩) h2
      rw [hl]
      exact wpG_of_S hsel hQ s _ _ _ hB2 (hc.set hj') (by simpa using hsz) (by rw [getD_set_ne true hjk]; exact hk) h'.1 h'.2
    · subst hqq
      refine wpOp_mono (fun a' w' h' => ⟨fun _ => h'.1, ?_⟩) h3
      rw [hl2]
      exact wpG_of_S hsel hQ t _ _ _ hB3 (hc.set hm') (by simpa using hsz) (by rw [getD_set_ne true hmk]; exact hk) h'.1 h'.2
def schOk (ops : Array Oper) (k f0 : Nat) (r : Sc) : Bool :=
  Region.noSelect ops && (decide (k < ops.size) && (decide (r.len = ops.size) && schB ops k f0 r (Array.replicate ops.size false)))
/-- the law -/
theorem wp_region_sch {id : Nat} {a : Act} {w : World} (S : World → Prop) (k f0 : Nat) (r : Sc) (hm : P.follows .mixedOrders = true) (hB : schOk ops k f0 r = true)
    (hQ : ∀ c a d v w, Q (.panic c) (a.put d v) w → Q (.panic c) a w) (hS : S w.drew) (h : wpS P ops Q S r a w.drew) : (Code.region id ops true).wp P Q a w := by
  simp only [schOk, Bool.and_eq_true, decide_eq_true_eq] at hB
  obtain ⟨hsel, hk, hl, hB⟩ := hB
  refine wp_region_any hm ?_
  have := wpG_of_S (S := S) hsel hQ r (Array.replicate ops.size false) a w.drew hB (fun j oj _ hl => by rw [getD_replicate_false] at hl; cases hl) (by simp) (getD_in (by simpa using hk) (getD_replicate_false _ _)) hS h
  rw [hl] at this
  exact wpAny_of_G _ _ _ _ this
/-! the steps -/
theorem sch_end {e : List Nat} {l : List Oper} {a : Act} {w : World} (hp : Picks ops e l) (h : wpList P ops Q l a w) : wpS P ops Q S (.fin e) a w := ⟨l, hp, h⟩
theorem sch_still {i : Nat} {r : Sc} {o : Oper} {v : Value} {a : Act} {w : World} (hi : ops[i]? = some o) (hg : o.guard = none)
    (hy : ∀ wx, S wx → (execOp a.eval o).run P wx = .ok (.value v) wx) (h : wpS P ops Q S r (a.put o.dst v) w) : wpS P ops Q S (.st i r) a w :=
  ⟨o, v, hi, .inl ⟨by simp [Region.wanted, hg], hy⟩, h⟩
theorem sch_sw {i : Nat} {r : Sc} {o : Oper} {v : Value} {a : Act} {w : World} (hi : ops[i]? = some o) (hg : o.guard = none)
    (hy : ∀ wx, (execOp a.eval o).run P wx = .ok (.value v) wx) (h : wpS P ops Q S r (a.put o.dst v) w) : wpS P ops Q S (.sw i r) a w :=
  ⟨o, v, hi, .inl ⟨by simp [Region.wanted, hg], fun wx _ => hy wx⟩, h⟩
/-! .. and by the laws on lists of operations -/
theorem wp_thenQ {o : Oper} {a : Act} {w : World} {K : Act → World → Prop} (h : o.wp P a w (wpList P ops (Exit.then K Q) []) (Exit.then K Q)) : o.wp P a w K Q := by
  unfold Oper.wp at *
  generalize (execOp a.eval o).run P w = r at *
  cases r with
  | ok n w' => cases n <;> simp only [Oper.upon] at h ⊢ <;> first | exact h | exact Calls.mono h (fun e w'' he => by cases e <;> exact he) | exact Rows.mono h (fun _ _ he => he)
  | halt x w' => cases x <;> simp only [Oper.upon] at h ⊢ <;> exact h
abbrev thenS (P : Program) (ops : Array Oper) (Q : Exit → Act → World → Prop) (S : World → Prop) (r : Sc) : Exit → Act → World → Prop := Exit.then (fun a' w' => S w' ∧ wpS P ops Q S r a' w') Q
theorem effL_ {i : Nat} {r : Sc} {o : Oper} {a : Act} {w : World} (hi : ops[i]? = some o) (h : wpList P ops (thenS P ops Q S r) [o] a w) : wpOp P ops Q i (fun a' w' => S w' ∧ wpS P ops Q S r a' w') a w := by
  unfold wpOp
  simp only [hi]
  unfold wpList at h
  split
  · rename_i hw
    rw [if_pos hw] at h
    exact h.imp wp_thenQ id
  · rename_i hw
    rw [if_neg hw] at h
    exact h
theorem sch_next {r : Sc} {a : Act} {w : World} (hS : S w) (h : wpS P ops Q S r a w) : wpList P ops (thenS P ops Q S r) [] a w := ⟨hS, h⟩
theorem sch_ef {i : Nat} {r : Sc} {o : Oper} {a : Act} {w : World} (hi : ops[i]? = some o) (h : wpList P ops (thenS P ops Q S r) [o] a w) : wpS P ops Q S (.ef i r) a w := effL_ hi h
theorem sch_2 {i j : Nat} {r s : Sc} {o p : Oper} {a : Act} {w : World} (hi : ops[i]? = some o) (hj : ops[j]? = some p) (h : wpList P ops (thenS P ops Q S r) [o] a w) (h2 : wpList P ops (thenS P ops Q S s) [p] a w) : wpS P ops Q S (.two i r j s) a w := ⟨effL_ hi h, effL_ hj h2⟩
theorem sch_3 {i j m : Nat} {r s t : Sc} {o p q : Oper} {a : Act} {w : World} (hi : ops[i]? = some o) (hj : ops[j]? = some p) (hm : ops[m]? = some q) (h : wpList P ops (thenS P ops Q S r) [o] a w) (h2 : wpList P ops (thenS P ops Q S s) [p] a w)
    (h3 : wpList P ops (thenS P ops Q S t) [q] a w) : wpS P ops Q S (.three i r j s m t) a w := ⟨effL_ hi h, effL_ hj h2, effL_ hm h3⟩
theorem act_put (a : Act) (d : Tmp) (v : Value) (l : List Value) (h : a.tmps = l.toArray) : a.put (some d) v = { a with tmps := (l.set d v).toArray } := by unfold Act.put; rw [h]; simp
end
end Go.Proofs.YtiopbdodegopdaaDoor
/- A region that draws its order: the laws of its steps: a call; for this program: an alloc, a slice literal of one body, an append. -/
namespace Go.Proofs.YtiopbdodegopdaaDoor
open Go.RowKit
section
variable {P : Program} {ops : Array Oper} {rest : List Oper} {o : Oper} {a : Act} {w : World} {Q : Exit → Act → World → Prop}
theorem run_callFunc_go {f : FuncId} {fn : Func} (hf : P.funcs[f]? = some fn) (hn : (fn.name == "runtime.NumGoroutine") = false) (hb : fn.body.isNone = false) (args : Array Value) (w : World) : (callFunc f args).run P w = .ok (.enter f args) w := by
  have hn' : ¬ fn.name = "runtime.NumGoroutine" := by simpa using hn
  have hb' : ¬ fn.body = none := fun e => by rw [e] at hb; cases hb
  unfold callFunc
  simp [hf, hb', hn']
theorem wpList_callC {R : Ending → World → Prop} (hgd : o.guard = none) (f : FuncId) (xs : Array Operand) (ts : Array TypeId) (ho : o.op = .call { callee := .value (.func f), args := xs, argTypes := ts }) {fn : Func} (hf : P.funcs[f]? = some fn)
    (hn : (fn.name == "runtime.NumGoroutine") = false) (hb : fn.body.isNone = false) (args : Array Value) (hx : xs.map a.eval = args)
    (hc : Calls P f args w R) (h : ∀ e w', R e w' → ∃ v, e = .returned v ∧ wpList P ops Q rest (a.put o.dst v) w') : wpList P ops Q (o :: rest) a w := by
  refine wpList_plain hgd fun K hK => ?_
  unfold Oper.wp
  have e1 : execOp a.eval o = callFunc f args := by
    obtain ⟨d, op, ty, pos, after, g⟩ := o
    simp only at ho
    subst ho
    rw [execOp_call_go, hx]
    simp
  rw [e1, run_callFunc_go hf hn hb, Oper.upon_enter]
  refine hc.mono fun e w' he => ?_
  obtain ⟨v, rfl, hv⟩ := h e w' he
  exact hK _ _ hv
theorem run_store1 (P : Program) (w : World) (b o : Nat) (v u : Value) (h1 : v.oneCell' = true) (hc : w.cell? ⟨b, o, none⟩ = some u) (hf : w.frozen? ⟨b, o, none⟩ = false) : Sem.run P (storeCells ⟨b, o, none⟩ [v]) w = .ok () (w.setCell ⟨b, o, none⟩ v) := by
  have hst := run_store P w ⟨b, o, none⟩ v .plain h1
  rw [hc] at hst
  simp only [hf] at hst
  have e0 : (⟨b, o, none⟩ : Addr).add 0 = ⟨b, o, none⟩ := by simp [Addr.add]
  simp [storeCells, e0, hst]
/-- a value of one cell is stored -/
theorem store_cell (hgd : o.guard = none) (ty : TypeId) (x y : Operand) (ho : o.op = .store ty x y) (b f : Nat) (hx : a.eval x = .pointer (some ⟨b, f, none⟩)) (v : Value) (hy : a.eval y = v) (h1 : v.oneCell' = true)
    (hi : (P.info? ty).map (·.size) = some 1) {u : Value} (hc : w.cell? ⟨b, f, none⟩ = some u) (hf : w.frozen? ⟨b, f, none⟩ = false) (h : wpList P ops Q rest (a.put o.dst undef) (w.setCell ⟨b, f, none⟩ v)) : wpList P ops Q (o :: rest) a w := by
  have hrun : (storeVar ty ⟨b, f, none⟩ v).run P w = .ok () (w.setCell ⟨b, f, none⟩ v) := by
    have hs := run_store1 P w b f v u h1 hc hf
    have hv : v.cells = #[v] := by cases v <;> first | rfl | cases h1
    cases hq : P.info? ty with
    | none => simp [hq] at hi
    | some i =>
      have hsz : i.size = 1 := by simpa [hq] using hi
      simp [storeVar, sizeOf, typeInfo, hq, hv, hsz, hs]
  refine wpList_plain hgd fun K hK => ?_
  unfold Oper.wp execOp
  simp only [ho, hx, hy, Instr.storeAt, Instr.sureAddr, Sem.run_bind, Sem.run_pure, Result.andThen_ok, hrun]
  exact hK _ _ h
end
section
variable {ops : Array Oper} {rest : List Oper} {o : Oper} {a : Act} {w : World} {Q : Exit → Act → World → Prop}
theorem info_wld : (Tryd.prog.info? 40).map (fun i => i.zero) = some (some (.agg #[nilV, .int .i64 0, .int .i64 0, nilV, nilV])) := by kernel_rfl
theorem info_bodz : (Tryd.prog.info? 75).map (fun i => i.zero) = some (some zBV) := by kernel_rfl
theorem wpList_allocG {P : Program} (hgd : o.guard = none) (t : TypeId) (ho : o.op = .alloc t) (z : Value) (hi : (P.info? t).map (fun i => i.zero) = some (some z))
    (h : wpList P ops Q rest (a.put o.dst (.pointer (some ⟨w.heap.size, 0, none⟩))) (w.alloc (.cells z.cells t))) : wpList P ops Q (o :: rest) a w := by
  obtain ⟨i, hi, hz⟩ := Option.map_eq_some_iff.1 hi
  refine Great.wpList_runTo hgd _ rfl _ _ ?_ h
  simp [execOp, ho, Instr.alloc, zeroValue, typeInfo, hi, hz, newVar, newRow]
theorem alloc_wld (hgd : o.guard = none) (ho : o.op = .alloc 40)
    (h : wpList Tryd.prog ops Q rest (a.put o.dst (.pointer (some ⟨w.heap.size, 0, none⟩))) (w.alloc (.cells #[nilV, .int .i64 0, .int .i64 0, nilV, nilV] 40))) : wpList Tryd.prog ops Q (o :: rest) a w := wpList_allocG hgd _ ho _ info_wld h
theorem alloc_bod (hgd : o.guard = none) (ho : o.op = .alloc 75)
    (h : wpList Tryd.prog ops Q rest (a.put o.dst (.pointer (some ⟨w.heap.size, 0, none⟩))) (w.alloc (.cells zB.cells.toArray 75))) : wpList Tryd.prog ops Q (o :: rest) a w := wpList_allocG hgd _ ho _ info_bodz h
/-- '[]Body{b}' -/
theorem lit_bod (hgd : o.guard = none) (x : Operand) (ho : o.op = .buildSlice 38 1 #[(0, x)]) (b : Bd) (hx : a.eval x = b.val)
    (h : wpList Tryd.prog ops Q rest (a.put o.dst (.slice (some ⟨w.heap.size, 0, none⟩) 1 1)) (w.alloc (.cells b.cells.toArray 75))) : wpList Tryd.prog ops Q (o :: rest) a w := by
  refine Great.wpList_buildSliceTo hgd _ 75 1 _ ho w.heap.size rfl _ rfl Tryd.underlying38 b.cells.toArray ?_ h
  obtain ⟨i0, hi, hz0, hz1, hz2⟩ := bod_parts
  unfold Program.builtSlice
  simp only [hi, hz0, hz1]
  simp only [List.toList_toArray, List.map_cons, List.map_nil, List.map_toArray, hx]
  kernel_rfl
/-- a body's load, as one of the reads of a drawn region -/
theorem still_bodL (x : Operand) (ho : o.op = .load 75 x) (g f : Nat) (hx : a.eval x = .pointer (some ⟨g, f, none⟩)) (b : Bd) (hc : w.rangeAt g f b.cells) : (execOp a.eval o).run Tryd.prog w = .ok (.value b.val) w := by
  unfold execOp
  simp only [ho, hx, Instr.loadAt, Instr.sureAddr, Sem.run_bind, Sem.run_pure, Result.andThen_ok, run_loadVar_mid w g f _ b.cells _ hc Tryd.underlying75 rfl (by rw [size_bod]; rfl)]
  rfl
theorem size_bods : (Tryd.prog.info? 38).map (·.size) = some 1 := by kernel_rfl
theorem size_ints : (Tryd.prog.info? 37).map (·.size) = some 1 := by kernel_rfl
theorem size_int : (Tryd.prog.info? 3).map (·.size) = some 1 := by kernel_rfl
theorem own_lit (w : World) (b : Bd) : Own (w.alloc (.cells b.cells.toArray 75)) w.heap.size 9 (.slice (some ⟨w.heap.size, 0, none⟩) 1 1) 1 (cellsB [b]) := Own.lit (n := 1) 75 (by simp [cellsB]) (by rw [cellsB_len]; rfl) (Nat.le_refl _) (by unfold maxLen; omega)
/-- '[]int{z}' -/
theorem wpList_buildInt1 (hgd : o.guard = none) (x : Operand) (ho : o.op = .buildSlice 37 1 #[(0, x)]) (z : Int) (hx : a.eval x = .int .i64 z)
    (h : wpList Tryd.prog ops Q rest (a.put o.dst (.slice (some ⟨w.heap.size, 0, none⟩) 1 1)) (w.alloc (.cells #[.int .i64 z] 3))) : wpList Tryd.prog ops Q (o :: rest) a w := by
  refine Great.wpList_buildSliceTo hgd _ 3 1 _ ho w.heap.size rfl _ rfl Tryd.underlying37 #[.int .i64 z] ?_ h
  obtain ⟨i0, hi, hz0, hz1, hz2⟩ := info_parts info_int
  unfold Program.builtSlice
  simp only [hi, hz0, hz1]
  simp only [List.toList_toArray, List.map_cons, List.map_nil, List.map_toArray, hx]
  kernel_rfl
end
end Go.Proofs.YtiopbdodegopdaaDoor
/- A valid world is small, and its bodies' places are numbers of 64 bits. No walk. -/
namespace Go.Proofs.YtiopbdodegopdaaDoor
open Go.RowKit

theorem rowAt_mem {l : List ByteArray} {s : ByteArray} (h : s ∈ l) : ∃ r, r < l.length ∧ rowAt l r = s := by
  obtain ⟨r, hr, e⟩ := List.mem_iff_getElem.1 h
  exact ⟨r, hr, by rw [rowAt_eq hr, e]⟩
theorem lv_sizes {l : List ByteArray} (h : lvT l = true) : l.length ≤ 12 ∧ ∀ s ∈ l, s.size ≤ 20 := by
  have hl := lvT_lv h
  refine ⟨hl.n12, fun s hs => ?_⟩
  obtain ⟨r, hr, e⟩ := rowAt_mem hs
  rw [← e, hl.rows r hr]
  exact hl.w20
theorem wok_small {X : Wd} (h : WOk X) : WSmall X := by
  obtain ⟨h1, h2⟩ := lv_sizes h.lv
  have := h.n
  have := h.bods.most
  exact ⟨by omega, fun s hs => by have := h2 s hs; omega, by omega, by omega⟩
theorem bods_bwf {l : List ByteArray} {n : Nat} {bs : List Bd} (hl : lvT l = true) (h : Bods l n bs) : ∀ b ∈ bs, BWf b := by
  intro b hb
  obtain ⟨k, hk, rfl⟩ := List.mem_iff_getElem.1 hb
  have hf : ∃ s, 1 ≤ s ∧ s ≤ 16 ∧ solT l (bs[k]'hk).x (bs[k]'hk).y s = false := by
    by_cases e : k < n
    · have := (h.pl k e).free
      rw [bAt_eq hk] at this
      exact ⟨12, by omega, by omega, this⟩
    · have ho := h.ot_at (by omega) hk
      refine ⟨_, ?_, ?_, ho.free⟩
      · rcases ho.kind with e | e <;> rw [e] <;> decide
      · rcases ho.kind with e | e <;> rw [e] <;> decide
  obtain ⟨s, h1, h2, hf⟩ := hf
  have := free_bd (lvT_lv hl) h1 h2 hf
  exact ⟨by omega, by omega⟩
theorem wok_bwf {X : Wd} (h : WOk X) : ∀ b ∈ X.bodies, BWf b := bods_bwf h.lv h.bods
theorem range_fresh (l : List ByteArray) (k : Nat) : (List.range (k + 1)).map (freshB l) = (List.range k).map (freshB l) ++ [freshB l k] := by rw [List.range_succ, List.map_append]; rfl
end Go.Proofs.YtiopbdodegopdaaDoor
/- A world behind a pointer, its slices owned: what becomes of it when a slice, an element or a number is stored. No walk. -/
namespace Go.Proofs.YtiopbdodegopdaaDoor
open Go.RowKit

structure Hd (w : World) (B G : Nat) (x xs xb : Value) (X : Wd) : Prop where
  blk : WBlk w G x X.tick X.seed xs xb
  own : WOwn w B x xs xb X
  n1 : x.ownBlock ≠ some G
  n2 : xs.ownBlock ≠ some G
  n3 : xb.ownBlock ≠ some G
  ge : B ≤ G
def blkH (G : Nat) (x xs xb : Value) (i : Nat) : Prop := i = G ∨ blkW x xs xb i
section
variable {w w' : World} {B G : Nat} {x xs xb : Value} {X : Wd}
theorem Hd.lt (h : Hd w B G x xs xb X) : ∀ i, blkH G x xs xb i → B ≤ i ∧ i < w.heap.size := fun i hi => by
  rcases hi with rfl | hi
  · exact ⟨h.ge, h.blk.lt⟩
  · exact h.own.ge i hi
theorem Hd.tch {S : Nat → Prop} (h : Hd w B G x xs xb X) (ht : Tch S w w') (hs : ∀ i, blkH G x xs xb i → ¬ S i) : Hd w' B G x xs xb X :=
  ⟨h.blk.tch ht (hs G (.inl rfl)), h.own.tch ht fun i hi => hs i (.inr hi), h.n1, h.n2, h.n3, h.ge⟩
theorem Hd.below (h : Hd w B G x xs xb X) (hb : Below w.heap.size w w') : Hd w' B G x xs xb X := ⟨h.blk.below hb h.blk.lt, h.own.below hb, h.n1, h.n2, h.n3, h.ge⟩
theorem Hd.drew (h : Hd w B G x xs xb X) : Hd w.drew B G x xs xb X := ⟨h.blk.drew, h.own.drew, h.n1, h.n2, h.n3, h.ge⟩
theorem Hd.alloc (h : Hd w B G x xs xb X) (o : Obj) : Hd (w.alloc o) B G x xs xb X := h.below ((Below.refl _ _).alloc (Nat.le_refl _) _)
theorem Tch.of_grown1 {g : Nat} {S : Nat → Prop} (h : w.grownBy w' (some g)) (hs : S g) : Tch S w w' := ⟨h.os, h.tape, h.output, h.size, fun i hi hn => h.block i hi fun e => hn (by simp only [Option.some.injEq] at e; rw [e]; exact hs)⟩
theorem Hd.tchBelow {S : Nat → Prop} (h : Hd w B G x xs xb X) (ht : Tch S w w') (hs : ∀ i, S i → blkH G x xs xb i) : Below B w w' := ht.below (by have := h.ge; have := h.blk.lt; omega) fun i hi => (h.lt i (hs i hi)).1
theorem setCell_grown (w : World) (g o : Nat) (v : Value) : w.grownBy (w.setCell ⟨g, o, none⟩ v) (some g) := setCells_grown w g o [v]
/-- another slice of bodies -/
theorem Hd.putB (h : Hd w B G x xs xb X) {v : Value} {n : Nat} {bs : List Bd} (hv : Own w B 9 v n (cellsB bs)) (n3 : v.ownBlock ≠ some G) (rb : Dj x v) (sb : Dj xs v) :
    Hd (w.setCell ⟨G, 4, none⟩ v) B G x xs v { X with bodies := bs } ∧ w.grownBy (w.setCell ⟨G, 4, none⟩ v) (some G) := by
  have hg := setCell_grown w G 4 v
  have hn := hv.fitB
  subst hn
  exact ⟨⟨h.blk.set4 v, ⟨h.own.r.kept hg (.inr h.n1), h.own.s.kept hg (.inr h.n2), hv.kept hg (.inr n3), h.own.rs, rb, sb⟩, h.n1, h.n2, n3, h.ge⟩, hg⟩
/-- the slice of bodies appended to -/
theorem Hd.appB (h : Hd w B G x xs xb X) {v : Value} {n : Nat} {bs : List Bd} (hv : Own w' B 9 v n (cellsB bs)) (hg : w.grownBy w' xb.ownBlock) (hvb : v.ownBlock = xb.ownBlock ∨ ∃ g, v.ownBlock = some g ∧ w.heap.size ≤ g) :
    Hd (w'.setCell ⟨G, 4, none⟩ v) B G x xs v { X with bodies := bs } ∧ Tch (fun i => i = G ∨ xb.ownBlock = some i) w (w'.setCell ⟨G, 4, none⟩ v) := by
  have h1 : Hd w' B G x xs nilV { X with bodies := [] } → Hd (w'.setCell ⟨G, 4, none⟩ v) B G x xs v { X with bodies := bs } := fun k => by
    refine (k.putB hv ?_ ?_ ?_).1
    · rcases hvb with e | ⟨g, e, hgg⟩
      · rw [e]; exact h.n3
      · rw [e]; intro e2; simp only [Option.some.injEq] at e2; have := h.blk.lt; omega
    · rcases hvb with e | ⟨g, e, hgg⟩
      · have := h.own.rb; unfold Dj at this ⊢; rw [e]; exact this
      · exact dj_ge fun i j hi hj e2 => by rw [e] at hj; simp only [Option.some.injEq] at hj; have := (h.own.r.ge i hi).2; omega
    · rcases hvb with e | ⟨g, e, hgg⟩
      · have := h.own.sb; unfold Dj at this ⊢; rw [e]; exact this
      · exact dj_ge fun i j hi hj e2 => by rw [e] at hj; simp only [Option.some.injEq] at hj; have := (h.own.s.ge i hi).2; omega
  have hbk := h.blk.grown hg h.n3
  have hr := h.own.r.kept hg h.own.rb
  have hs := h.own.s.kept hg h.own.sb
  have hg2 := setCell_grown w' G 4 v
  have hn := hv.fitB
  subst hn
  have n3 : v.ownBlock ≠ some G := by
    rcases hvb with e | ⟨g, e, hgg⟩
    · rw [e]; exact h.n3
    · rw [e]; intro e2; simp only [Option.some.injEq] at e2; have := h.blk.lt; omega
  refine ⟨⟨hbk.set4 v, ⟨hr.kept hg2 (.inr h.n1), hs.kept hg2 (.inr h.n2), hv.kept hg2 (.inr n3), h.own.rs, ?_, ?_⟩, h.n1, h.n2, n3, h.ge⟩, (Tch.of_grown hg fun i hi => .inr hi).trans (Tch.of_grown1 hg2 (.inl rfl))⟩
  · rcases hvb with e | ⟨g, e, hgg⟩
    · have := h.own.rb; unfold Dj at this ⊢; rw [e]; exact this
    · exact dj_ge fun i j hi hj e2 => by rw [e] at hj; simp only [Option.some.injEq] at hj; have := (h.own.r.ge i hi).2; omega
  · rcases hvb with e | ⟨g, e, hgg⟩
    · have := h.own.sb; unfold Dj at this ⊢; rw [e]; exact this
    · exact dj_ge fun i j hi hj e2 => by rw [e] at hj; simp only [Option.some.injEq] at hj; have := (h.own.s.ge i hi).2; omega
theorem Hd.appS (h : Hd w B G x xs xb X) {v : Value} {sc : List Int} (hv : Own w' B 1 v sc.length (ints sc)) (hg : w.grownBy w' xs.ownBlock) (hvb : v.ownBlock = xs.ownBlock ∨ ∃ g, v.ownBlock = some g ∧ w.heap.size ≤ g) :
    Hd (w'.setCell ⟨G, 3, none⟩ v) B G x v xb { X with scores := sc } ∧ Tch (fun i => i = G ∨ xs.ownBlock = some i) w (w'.setCell ⟨G, 3, none⟩ v) := by
  have hbk := h.blk.grown hg h.n2
  have hr := h.own.r.kept hg h.own.rs
  have hb := h.own.b.kept hg h.own.sb.symm
  have hg2 := setCell_grown w' G 3 v
  have n2 : v.ownBlock ≠ some G := by
    rcases hvb with e | ⟨g, e, hgg⟩
    · rw [e]; exact h.n2
    · rw [e]; intro e2; simp only [Option.some.injEq] at e2; have := h.blk.lt; omega
  refine ⟨⟨hbk.set3 v, ⟨hr.kept hg2 (.inr h.n1), hv.kept hg2 (.inr n2), hb.kept hg2 (.inr h.n3), ?_, h.own.rb, ?_⟩, h.n1, n2, h.n3, h.ge⟩, (Tch.of_grown hg fun i hi => .inr hi).trans (Tch.of_grown1 hg2 (.inl rfl))⟩
  · rcases hvb with e | ⟨g, e, hgg⟩
    · have := h.own.rs; unfold Dj at this ⊢; rw [e]; exact this
    · exact dj_ge fun i j hi hj e2 => by rw [e] at hj; simp only [Option.some.injEq] at hj; have := (h.own.r.ge i hi).2; omega
  · rcases hvb with e | ⟨g, e, hgg⟩
    · have := h.own.sb; unfold Dj at this ⊢; rw [e]; exact this
    · exact (dj_ge fun i j hi hj e2 => by rw [e] at hj; simp only [Option.some.injEq] at hj; have := (h.own.b.ge i hi).2; omega : Dj xb v).symm
/-- an element stored -/
theorem Hd.elemB {g n cap : Nat} (h : Hd w B G x xs (.slice (some ⟨g, 0, none⟩) n cap) X) {k : Nat} (hk : k < X.bodies.length) (b : Bd) :
    Hd (w.setCells g (k * 9) b.cells) B G x xs (.slice (some ⟨g, 0, none⟩) n cap) { X with bodies := X.bodies.set k b } ∧ w.grownBy (w.setCells g (k * 9) b.cells) (some g) := by
  have hn : n = X.bodies.length := by
    obtain ⟨_, ao, c, e, _⟩ := h.own.b.at_
    simp only [Value.slice.injEq] at e
    exact e.2.1
  subst hn
  have hs := h.own.b.storedB hk b
  have hob : (Value.slice (some ⟨g, 0, none⟩) X.bodies.length cap).ownBlock = some g := rfl
  refine ⟨⟨h.blk.grown hs.2 (by rw [← hob]; exact h.n3), ⟨h.own.r.kept hs.2 (by rw [← hob]; exact h.own.rb), h.own.s.kept hs.2 (by rw [← hob]; exact h.own.sb), ?_, h.own.rs, h.own.rb, h.own.sb⟩, h.n1, h.n2, h.n3, h.ge⟩, hs.2⟩
  show Own _ _ _ _ (X.bodies.set k b).length _
  rw [List.length_set]
  exact hs.1
/-- one field of an element stored -/
theorem Hd.elemF {g n cap : Nat} (h : Hd w B G x xs (.slice (some ⟨g, 0, none⟩) n cap) X) {k j : Nat} (hk : k < X.bodies.length) (hj : j < 9) (b : Bd) (u : Value) (hb : b.cells = (bAt X.bodies k).cells.set j u) :
    Hd (w.setCell ⟨g, k * 9 + j, none⟩ u) B G x xs (.slice (some ⟨g, 0, none⟩) n cap) { X with bodies := X.bodies.set k b } ∧ w.grownBy (w.setCell ⟨g, k * 9 + j, none⟩ u) (some g) := by
  have hn : n = X.bodies.length := by
    obtain ⟨_, ao, c, e, _⟩ := h.own.b.at_
    simp only [Value.slice.injEq] at e
    exact e.2.1
  subst hn
  have hs := h.own.b.storedF hk hj b u hb
  have hob : (Value.slice (some ⟨g, 0, none⟩) X.bodies.length cap).ownBlock = some g := rfl
  refine ⟨⟨h.blk.grown hs.2 (by rw [← hob]; exact h.n3), ⟨h.own.r.kept hs.2 (by rw [← hob]; exact h.own.rb), h.own.s.kept hs.2 (by rw [← hob]; exact h.own.sb), ?_, h.own.rs, h.own.rb, h.own.sb⟩, h.n1, h.n2, h.n3, h.ge⟩, hs.2⟩
  show Own _ _ _ _ (X.bodies.set k b).length _
  rw [List.length_set]
  exact hs.1
/-- a score stored -/
theorem Hd.elemS {g n cap : Nat} (h : Hd w B G x (.slice (some ⟨g, 0, none⟩) n cap) xb X) {k : Nat} (hk : k < X.scores.length) (z : Int) :
    Hd (w.setCell ⟨g, k, none⟩ (.int .i64 z)) B G x (.slice (some ⟨g, 0, none⟩) n cap) xb { X with scores := X.scores.set k z } ∧ w.grownBy (w.setCell ⟨g, k, none⟩ (.int .i64 z)) (some g) := by
  have hn : n = X.scores.length := by
    obtain ⟨_, ao, c, e, _⟩ := h.own.s.at_
    simp only [Value.slice.injEq] at e
    exact e.2.1
  subst hn
  have hs := h.own.s.stored k (.int .i64 z) (by omega)
  have hob : (Value.slice (some ⟨g, 0, none⟩) X.scores.length cap).ownBlock = some g := rfl
  refine ⟨⟨h.blk.grown hs.2 (by rw [← hob]; exact h.n2), ⟨h.own.r.kept hs.2 (by rw [← hob]; exact h.own.rs), ?_, h.own.b.kept hs.2 (by rw [← hob]; exact h.own.sb.symm), h.own.rs, h.own.rb, h.own.sb⟩, h.n1, h.n2, h.n3, h.ge⟩, hs.2⟩
  show Own _ _ _ _ (X.scores.set k z).length _
  rw [List.length_set, List.map_set]
  exact hs.1
theorem Hd.setTick (h : Hd w B G x xs xb X) (z : Int) : Hd (w.setCell ⟨G, 1, none⟩ (.int .i64 z)) B G x xs xb { X with tick := z } ∧ w.grownBy (w.setCell ⟨G, 1, none⟩ (.int .i64 z)) (some G) := by
  have hg := setCell_grown w G 1 (.int .i64 z)
  exact ⟨⟨h.blk.set1 z, ⟨h.own.r.kept hg (.inr h.n1), h.own.s.kept hg (.inr h.n2), h.own.b.kept hg (.inr h.n3), h.own.rs, h.own.rb, h.own.sb⟩, h.n1, h.n2, h.n3, h.ge⟩, hg⟩
theorem Hd.setSeed (h : Hd w B G x xs xb X) (z : Int) : Hd (w.setCell ⟨G, 2, none⟩ (.int .i64 z)) B G x xs xb { X with seed := z } ∧ w.grownBy (w.setCell ⟨G, 2, none⟩ (.int .i64 z)) (some G) := by
  have hg := setCell_grown w G 2 (.int .i64 z)
  exact ⟨⟨h.blk.set2 z, ⟨h.own.r.kept hg (.inr h.n1), h.own.s.kept hg (.inr h.n2), h.own.b.kept hg (.inr h.n3), h.own.rs, h.own.rb, h.own.sb⟩, h.n1, h.n2, h.n3, h.ge⟩, hg⟩
/-- a nonempty slice of bodies lies in a block -/
theorem Hd.formB (h : Hd w B G x xs xb X) (hp : 0 < X.bodies.length) : ∃ g cap, xb = .slice (some ⟨g, 0, none⟩) X.bodies.length cap ∧ g < w.heap.size := by
  rcases h.own.b.val with ⟨_, e⟩ | ⟨g, cap, e, _, hg, _⟩
  · omega
  · exact ⟨g, cap, e, hg⟩
theorem Hd.formS (h : Hd w B G x xs xb X) (hp : 0 < X.scores.length) : ∃ g cap, xs = .slice (some ⟨g, 0, none⟩) X.scores.length cap ∧ g < w.heap.size := by
  rcases h.own.s.val with ⟨_, e⟩ | ⟨g, cap, e, _, hg, _⟩
  · omega
  · exact ⟨g, cap, e, hg⟩
end
section
variable {ops : Array Oper} {rest : List Oper} {o : Oper} {a : Act} {Q : Exit → Act → World → Prop}
/-- 'append(out, s...)' on a []int, told where the new slice lies -/
theorem app_ints (w : World) (hgd : o.guard = none) (s x : Operand) (ho : o.op = .call { callee := .builtin .append, args := #[s, x], argTypes := #[37, 37] }) (base : Nat)
    {v : Value} {n : Nat} {l : List Int} (hown : Own w base 1 v n (ints l)) (hv : a.eval s = v) {xv : Value} {m : Nat} {news : List Int} (hat : At w 1 xv m (ints news)) (hx : a.eval x = xv)
    (hbytes : (n + m) * 8 ≤ 140737488355328) (hbase : base ≤ w.heap.size)
    (hK : ∀ v' w', Own w' base 1 v' (l ++ news).length (ints (l ++ news)) → w.grownBy w' v.ownBlock → (v'.ownBlock = v.ownBlock ∨ ∃ g, v'.ownBlock = some g ∧ w.heap.size ≤ g) → wpList Tryd.prog ops Q rest (a.put o.dst v') w') :
    wpList Tryd.prog ops Q (o :: rest) a w := by
  obtain ⟨i0, hi, hz0, hz1, hz2⟩ := info_parts info_int
  refine wpList_append_o (P := Tryd.prog) w hgd s x 37 37 ho base 3 i0 (.int .i64 0) 1 8 Tryd.underlying37 hi hz0 hz1 hz2 rfl hv hown _ m _ hx
    (src_at (P := Tryd.prog) Tryd.underlying37 hat (fun u hu => by obtain ⟨z, _, rfl⟩ := List.mem_map.1 hu; rfl)) (by unfold maxLen; omega) (by omega) (by omega) (fun v' w' h1 h2 h3 => ?_)
  have e : ints l ++ ints news = ints (l ++ news) := by simp [ints]
  rw [e] at h1
  have hl := h1.len
  have h1' : Own w' base 1 v' (l ++ news).length (ints (l ++ news)) := by
    have hq : (l ++ news).length = n + m := by simpa [ints] using hl
    rw [hq]; exact h1
  refine hK v' w' h1' h2 ?_
  rcases h3 with h3 | h3
  · exact .inl h3
  · exact .inr ⟨_, h3, Nat.le_refl _⟩
theorem own_lit1 (w : World) (z : Int) : Own (w.alloc (.cells #[.int .i64 z] 3)) w.heap.size 1 (.slice (some ⟨w.heap.size, 0, none⟩) 1 1) 1 (ints [z]) := Own.lit (n := 1) 3 rfl rfl (Nat.le_refl _) (by unfold maxLen; omega)
end
end Go.Proofs.YtiopbdodegopdaaDoor
