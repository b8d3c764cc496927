/- A region that draws its order, walked in one order: what only reads is taken first, under a condition on the world that holds until operation k is carried out; what turns the world comes up by itself. Plain laws over any program. -/
import Derived.OrdersHeld
import Derived.StillTail
import Derived.WalkKit
import Derived.KernelRfl
import Derived.Deep.MidRow
namespace Go.Proofs.YtiopbdodegopdaaDoor
open Go.RowKit
section
variable {P : Program} {ops : Array Oper} {Q : Exit → Act → World → Prop} {S : World → Prop} {k : Nat}

/-- j waits for i, through at most f others -/
def reachB (ops : Array Oper) : Nat → Nat → Nat → Bool
  | 0, i, j => Region.waitsFor .any ops j i
  | f + 1, i, j => Region.waitsFor .any ops j i || (List.range ops.size).any fun m => Region.waitsFor .any ops j m && reachB ops f i m
def Closed (ops : Array Oper) (listed : Array Bool) : Prop := ∀ j oj, ops[j]? = some oj → listed.getD j false = true → ∀ e ∈ oj.after, Region.binds .any e = true → listed.getD e.on false = true
theorem reach_wait {i : Nat} {listed : Array Bool} (hc : Closed ops listed) (hu : listed.getD i false = false) : ∀ (f j : Nat), reachB ops f i j = true → ∃ oj, ops[j]? = some oj ∧ ∃ e ∈ oj.after, Region.binds .any e = true ∧ listed.getD e.on false = false
  | 0, j, h => by
    obtain ⟨oj, h1, e, he, hb, hon⟩ := Region.waitsFor_spec (show Region.waitsFor .any ops j i = true from h)
    exact ⟨oj, h1, e, he, hb, by rw [hon]; exact hu⟩
  | f + 1, j, h => by
    simp only [reachB, Bool.or_eq_true] at h
    rcases h with h | h
    · obtain ⟨oj, h1, e, he, hb, hon⟩ := Region.waitsFor_spec h
      exact ⟨oj, h1, e, he, hb, by rw [hon]; exact hu⟩
    · obtain ⟨m, _, h2⟩ := List.any_eq_true.1 h
      simp only [Bool.and_eq_true] at h2
      obtain ⟨oj, h1, e, he, hb, hon⟩ := Region.waitsFor_spec h2.1
      obtain ⟨om, h3, e', he', hb', hon'⟩ := reach_wait hc hu f m h2.2
      refine ⟨oj, h1, e, he, hb, ?_⟩
      rw [hon]
      cases hm : listed.getD m false with
      | false => rfl
      | true => have := hc m om h3 hm e' he' hb'; rw [hon'] at this; cases this
theorem reach_not {i f j : Nat} {listed : Array Bool} (hc : Closed ops listed) (hu : listed.getD i false = false) (h : reachB ops f i j = true) : j ∉ Region.ready .any ops listed := by
  intro hr
  obtain ⟨_, oj, hoj, hall⟩ := mem_ready.1 hr
  obtain ⟨o', ho', e, he, hb, hon⟩ := reach_wait hc hu f j h
  have : o' = oj := Option.some.inj (ho'.symm.trans hoj)
  subst this
  have := hall e he hb
  rw [hon] at this
  cases this
theorem Closed.set {i : Nat} {listed : Array Bool} (hc : Closed ops listed) (hi : i ∈ Region.ready .any ops listed) : Closed ops (listed.setIfInBounds i true) := by
  obtain ⟨_, oi, hoi, hall⟩ := mem_ready.1 hi
  intro j oj hj hl e he hb
  by_cases hij : i = j
  · subst hij
    have : oj = oi := Option.some.inj (hj.symm.trans hoi)
    subst this
    exact getD_set_true (hall e he hb)
  · rw [getD_set_ne false hij] at hl
    exact getD_set_true (hc j oj hj hl e he hb)
/-- Whatever order is picked from here on, and S holds behind every operation that is carried out, until number k has come up. -/
def wpG (P : Program) (ops : Array Oper) (Q : Exit → Act → World → Prop) (S : World → Prop) (k : Nat) : Nat → Array Bool → Act → World → Prop
  | 0, listed, a, w => Region.ready .any ops listed = [] ∧ Q .normal a w
  | fuel + 1, listed, a, w =>
    (Region.ready .any ops listed = [] → Q .normal a w) ∧
    ∀ i ∈ Region.ready .any ops listed, wpOp P ops Q i (fun a' w' => ((listed.setIfInBounds i true).getD k true = false → S w') ∧ wpG P ops Q S k fuel (listed.setIfInBounds i true) a' w') a w
theorem wpAny_of_G : ∀ (fuel : Nat) (listed : Array Bool) (a : Act) (w : World), wpG P ops Q S k fuel listed a w → wpAny P .any ops Q fuel listed a w
  | 0, _, _, _, h => h
  | fuel + 1, _, _, _, h => ⟨h.1, fun i hi => wpOp_mono (fun a' w' h' => wpAny_of_G fuel _ a' w' h'.2) (h.2 i hi)⟩
theorem wpG_first {i f0 : Nat} {oi : Oper} {v : Value} (hi : ops[i]? = some oi) (hsel : ∀ (j : Nat) (o : Oper) cs b, ops[j]? = some o → o.op ≠ .select cs b)
    (hQ : ∀ c a w, Q (.panic c) (a.put oi.dst v) w → Q (.panic c) a w) (hik : i ≠ k) (hre : reachB ops f0 i k = true) :
    ∀ (fuel : Nat) (listed : Array Bool) (a : Act) (w : World),
      (∀ j oj, ops[j]? = some oj → j ≠ i → listed.getD j true = false → (∀ e ∈ oj.after, Region.binds .any e = true → e.on ≠ i) → oi.apart ops oj = true) →
      i ∈ Region.ready .any ops listed → YieldsIf P ops S oi v a → S w → Closed ops listed → listed.getD k true = false →
      wpG P ops Q S k fuel (listed.setIfInBounds i true) (a.put oi.dst v) w → wpG P ops Q S k (fuel + 1) listed a w := by
  intro fuel
  induction fuel with
  | zero =>
    intro listed a w _ hr hy hS _ _ H
    refine ⟨fun h => (by rw [h] at hr; cases hr), fun j hj => ?_⟩
    by_cases hji : j = i
    · subst hji; exact hy.wpOp hi hS ⟨fun _ => hS, H⟩
    · have := ready_mono hj hji
      rw [H.1] at this
      cases this
  | succ fuel ih =>
    intro listed a w hfree hr hy hS hc hk H
    refine ⟨fun h => (by rw [h] at hr; cases hr), fun j hj => ?_⟩
    by_cases hji : j = i
    · subst hji; exact hy.wpOp hi hS ⟨fun _ => hS, H⟩
    · have h1 := H.2 j (ready_mono hj hji)
      have hun := (mem_ready.1 hr).1
      have hjk : j ≠ k := fun e => by subst e; exact reach_not hc (getD_both hun) hre hj
      obtain ⟨hjun, oj, hoj, hall⟩ := mem_ready.1 hj
      have hnot : ∀ e ∈ oj.after, Region.binds .any e = true → e.on ≠ i := fun e he hb heq => by
        have h1 := hall e he hb
        rw [heq, getD_both hun] at h1
        cases h1
      have h2 := wpOp_putIf hoj (hfree j oj hoj hji hjun hnot) (fun cs b => hsel i oi cs b hi) (fun cs b => hsel j oj cs b hoj) hQ hy h1
      have hfree' : ∀ k ok, ops[k]? = some ok → k ≠ i → (listed.setIfInBounds j true).getD k true = false →
          (∀ e ∈ ok.after, Region.binds .any e = true → e.on ≠ i) → oi.apart ops ok = true := fun k ok hk hki hun hno => by
        refine hfree k ok hk hki ?_ hno
        by_cases hjk : j = k
        · subst hjk; exact hjun
        · rw [getD_set_ne true hjk] at hun; exact hun
      refine wpOp_mono (fun a' w' h3 => ?_) h2
      have hkk : ((listed.setIfInBounds i true).setIfInBounds j true).getD k true = false := by rw [getD_set_ne true hjk, getD_set_ne true hik]; exact hk
      have hkj : (listed.setIfInBounds j true).getD k true = false := by rw [getD_set_ne true hjk]; exact hk
      have hS' := h3.2.1 hkk
      refine ⟨fun _ => hS', ih (listed.setIfInBounds j true) a' w' hfree' (ready_mono hr (Ne.symm hji)) h3.1 hS' (hc.set hj) hkj ?_⟩
      rw [Array.setIfInBounds_comm _ _ hji]
      exact h3.2.2
/-- .. and an operation that yields its value in whatever world -/
theorem wpG_first0 {i : Nat} {oi : Oper} {v : Value} (hi : ops[i]? = some oi) (hsel : ∀ (j : Nat) (o : Oper) cs b, ops[j]? = some o → o.op ≠ .select cs b)
    (hQ : ∀ c a w, Q (.panic c) (a.put oi.dst v) w → Q (.panic c) a w) (hik : i ≠ k) :
    ∀ (fuel : Nat) (listed : Array Bool) (a : Act) (w : World),
      (∀ j oj, ops[j]? = some oj → j ≠ i → listed.getD j true = false → (∀ e ∈ oj.after, Region.binds .any e = true → e.on ≠ i) → oi.apart ops oj = true) →
      i ∈ Region.ready .any ops listed → YieldsIf P ops (fun _ => True) oi v a → (listed.getD k true = false → S w) →
      wpG P ops Q S k fuel (listed.setIfInBounds i true) (a.put oi.dst v) w → wpG P ops Q S k (fuel + 1) listed a w := by
  intro fuel
  induction fuel with
  | zero =>
    intro listed a w _ hr hy hS H
    refine ⟨fun h => (by rw [h] at hr; cases hr), fun j hj => ?_⟩
    by_cases hji : j = i
    · subst hji; exact hy.wpOp hi trivial ⟨fun h => hS (by rw [getD_set_ne true hik] at h; exact h), H⟩
    · have := ready_mono hj hji
      rw [H.1] at this
      cases this
  | succ fuel ih =>
    intro listed a w hfree hr hy hS H
    refine ⟨fun h => (by rw [h] at hr; cases hr), fun j hj => ?_⟩
    by_cases hji : j = i
    · subst hji; exact hy.wpOp hi trivial ⟨fun h => hS (by rw [getD_set_ne true hik] at h; exact h), H⟩
    · have h1 := H.2 j (ready_mono hj hji)
      have hun := (mem_ready.1 hr).1
      obtain ⟨hjun, oj, hoj, hall⟩ := mem_ready.1 hj
      have hnot : ∀ e ∈ oj.after, Region.binds .any e = true → e.on ≠ i := fun e he hb heq => by
        have h1 := hall e he hb
        rw [heq, getD_both hun] at h1
        cases h1
      have h2 := wpOp_putIf hoj (hfree j oj hoj hji hjun hnot) (fun cs b => hsel i oi cs b hi) (fun cs b => hsel j oj cs b hoj) hQ hy h1
      have hfree' : ∀ k ok, ops[k]? = some ok → k ≠ i → (listed.setIfInBounds j true).getD k true = false →
          (∀ e ∈ ok.after, Region.binds .any e = true → e.on ≠ i) → oi.apart ops ok = true := fun k ok hk hki hun hno => by
        refine hfree k ok hk hki ?_ hno
        by_cases hjk : j = k
        · subst hjk; exact hjun
        · rw [getD_set_ne true hjk] at hun; exact hun
      refine wpOp_mono (fun a' w' h3 => ?_) h2
      have hS' : (listed.setIfInBounds j true).getD k true = false → S w' := fun h => h3.2.1 (by rw [Array.setIfInBounds_comm _ _ (Ne.symm hji), getD_set_ne true hik]; exact h)
      refine ⟨hS', ih (listed.setIfInBounds j true) a' w' hfree' (ready_mono hr (Ne.symm hji)) h3.1 hS' ?_⟩
      rw [Array.setIfInBounds_comm _ _ hji]
      exact h3.2.2
/-- one after the other -/
def seqL (ops : Array Oper) : List Nat → Array Bool → Bool
  | [], listed => (Region.ready .any ops listed).isEmpty
  | i :: e, listed => decide (Region.ready .any ops listed = [i]) && seqL ops e (listed.setIfInBounds i true)
inductive Picks (ops : Array Oper) : List Nat → List Oper → Prop where
  | nil : Picks ops [] []
  | cons {i : Nat} {o : Oper} {e : List Nat} {l : List Oper} (h : ops[i]? = some o) (t : Picks ops e l) : Picks ops (i :: e) (o :: l)
theorem getD_set_self {listed : Array Bool} {i : Nat} (d : Bool) (h : i < listed.size) : (listed.setIfInBounds i true).getD i d = true := by simp [h]
theorem wpG_of_seq : ∀ {e : List Nat} {l : List Oper} (listed : Array Bool) (a : Act) (w : World), Picks ops e l → seqL ops e listed = true → listed.size = ops.size →
    (e.head? = some k ∨ listed.getD k true = true) → wpList P ops Q l a w → wpG P ops Q S k e.length listed a w
  | [], _, listed, a, w, .nil, hB, _, _, h => ⟨by simpa [seqL] using hB, h⟩
  | i :: e, o :: l, listed, a, w, .cons hi t, hB, hsz, hk, h => by
    simp only [seqL, Bool.and_eq_true, decide_eq_true_eq] at hB
    refine And.intro (fun h1 => by rw [hB.1] at h1; cases h1) (fun j hj => ?_)
    rw [hB.1] at hj
    have hji : j = i := by simpa using hj
    subst hji
    have hlt : j < listed.size := by rw [hsz]; exact (Array.getElem?_eq_some_iff.1 hi).1
    have hk' : (listed.setIfInBounds j true).getD k true = true := by
      rcases hk with hk | hk
      · simp only [List.head?_cons, Option.some.injEq] at hk
        subst hk
        exact getD_set_self true hlt
      · by_cases e : j = k
        · subst e; exact getD_set_self true hlt
        · rw [getD_set_ne true e]; exact hk
    have hw : wpOp P ops Q j (wpList P ops Q l) a w := by unfold wpOp; simp only [hi]; exact h
    exact wpOp_mono (fun a' w' h' => ⟨fun e => (by rw [hk'] at e; cases e), wpG_of_seq _ a' w' t hB.2 (by simpa using hsz) (.inr hk') h'⟩) hw
/-- A schedule: what comes up next: by itself (st: it only reads; ef: whatever it does), or one of two, one of three. -/
inductive Sc where
  | fin (e : List Nat)
  | st (i : Nat) (r : Sc)
  | sw (i : Nat) (r : Sc)
  | ef (i : Nat) (r : Sc)
  | two (i : Nat) (r : Sc) (j : Nat) (s : Sc)
  | three (i : Nat) (r : Sc) (j : Nat) (s : Sc) (m : Nat) (t : Sc)
def Sc.len : Sc → Nat
  | .fin e => e.length
  | .st _ r => r.len + 1
  | .sw _ r => r.len + 1
  | .ef _ r => r.len + 1
  | .two _ r _ _ => r.len + 1
  | .three _ r _ _ _ _ => r.len + 1
/-- the schedule, checked -/
def schB (ops : Array Oper) (k f0 : Nat) : Sc → Array Bool → Bool
  | .fin e, listed => (match e with | [] => false | i :: _ => i == k) && seqL ops e listed
  | .st i r, listed => (Region.ready .any ops listed).contains i && (Region.free .any ops listed i && (i != k && (reachB ops f0 i k && schB ops k f0 r (listed.setIfInBounds i true))))
  | .sw i r, listed => (Region.ready .any ops listed).contains i && (Region.free .any ops listed i && (i != k && schB ops k f0 r (listed.setIfInBounds i true)))
  | .ef i r, listed => decide (Region.ready .any ops listed = [i]) && (i != k && schB ops k f0 r (listed.setIfInBounds i true))
  | .two i r j s, listed => decide (Region.ready .any ops listed = [i, j]) && (i != k && (j != k && (decide (r.len = s.len) && (schB ops k f0 r (listed.setIfInBounds i true) && schB ops k f0 s (listed.setIfInBounds j true)))))
  | .three i r j s m t, listed => decide (Region.ready .any ops listed = [i, j, m]) && (i != k && (j != k && (m != k && (decide (r.len = s.len ∧ r.len = t.len) && (schB ops k f0 r (listed.setIfInBounds i true) && (schB ops k f0 s (listed.setIfInBounds j true) && schB ops k f0 t (listed.setIfInBounds m true)))))))
def wpS (P : Program) (ops : Array Oper) (Q : Exit → Act → World → Prop) (S : World → Prop) : Sc → Act → World → Prop
  | .fin e, a, w => ∃ l, Picks ops e l ∧ wpList P ops Q l a w
  | .st i r, a, w => ∃ o v, ops[i]? = some o ∧ YieldsIf P ops S o v a ∧ wpS P ops Q S r (a.put o.dst v) w
  | .sw i r, a, w => ∃ o v, ops[i]? = some o ∧ YieldsIf P ops (fun _ => True) o v a ∧ wpS P ops Q S r (a.put o.dst v) w
  | .ef i r, a, w => wpOp P ops Q i (fun a' w' => S w' ∧ wpS P ops Q S r a' w') a w
  | .two i r j s, a, w => wpOp P ops Q i (fun a' w' => S w' ∧ wpS P ops Q S r a' w') a w ∧ wpOp P ops Q j (fun a' w' => S w' ∧ wpS P ops Q S s a' w') a w
  | .three i r j s m t, a, w => wpOp P ops Q i (fun a' w' => S w' ∧ wpS P ops Q S r a' w') a w ∧ wpOp P ops Q j (fun a' w' => S w' ∧ wpS P ops Q S s a' w') a w ∧ wpOp P ops Q m (fun a' w' => S w' ∧ wpS P ops Q S t a' w') a w
theorem wpG_of_S {f0 : Nat} (hsel : Region.noSelect ops = true) (hQ : ∀ c a d v w, Q (.panic c) (a.put d v) w → Q (.panic c) a w) : ∀ (r : Sc) (listed : Array Bool) (a : Act) (w : World),
    schB ops k f0 r listed = true → Closed ops listed → listed.size = ops.size → listed.getD k true = false → S w → wpS P ops Q S r a w → wpG P ops Q S k r.len listed a w
  | .fin e, listed, a, w, hB, _, hsz, _, _, ⟨l, hp, h⟩ => by
    simp only [schB, Bool.and_eq_true] at hB
    have hh : e.head? = some k := by
      cases e with
      | nil => simp at hB
      | cons i e => simp at hB; simp [hB.1]
    exact wpG_of_seq listed a w hp hB.2 hsz (.inl hh) h
  | .st i r, listed, a, w, hB, hc, hsz, hk, hS, ⟨o, v, hi, hy, h⟩ => by
    simp only [schB, Bool.and_eq_true, bne_iff_ne, ne_eq] at hB
    obtain ⟨hr, hf, hik, hre, hB⟩ := hB
    have hr' : i ∈ Region.ready .any ops listed := by simpa using hr
    have := wpG_of_S hsel hQ r _ _ _ hB (hc.set hr') (by simpa using hsz) (by rw [getD_set_ne true hik]; exact hk) hS h
    exact wpG_first (S := S) hi (Region.noSelect_spec hsel) (fun c a w => hQ c a o.dst v w) hik hre _ listed a w (Region.free_spec hi hf) hr' hy hS hc hk this
  | .sw i r, listed, a, w, hB, hc, hsz, hk, hS, ⟨o, v, hi, hy, h⟩ => by
    simp only [schB, Bool.and_eq_true, bne_iff_ne, ne_eq] at hB
    obtain ⟨hr, hf, hik, hB⟩ := hB
    have hr' : i ∈ Region.ready .any ops listed := by simpa using hr
    have := wpG_of_S hsel hQ r _ _ _ hB (hc.set hr') (by simpa using hsz) (by rw [getD_set_ne true hik]; exact hk) hS h
    exact wpG_first0 (S := S) hi (Region.noSelect_spec hsel) (fun c a w => hQ c a o.dst v w) hik _ listed a w (Region.free_spec hi hf) hr' hy (fun _ => hS) this
  | .ef i r, listed, a, w, hB, hc, hsz, hk, hS, h => by
    simp only [schB, Bool.and_eq_true, decide_eq_true_eq, bne_iff_ne, ne_eq] at hB
    obtain ⟨hr, hik, hB⟩ := hB
    have hr' : i ∈ Region.ready .any ops listed := by rw [hr]; simp
    refine And.intro (fun h1 => by rw [hr] at h1; cases h1) (fun j hj => ?_)
    rw [hr] at hj
    have hji : j = i := by simpa using hj
    subst hji
    exact wpOp_mono (fun a' w' h' => ⟨fun _ => h'.1, wpG_of_S hsel hQ r _ _ _ hB (hc.set hr') (by simpa using hsz) (by rw [getD_set_ne true hik]; exact hk) h'.1 h'.2⟩) h
  | .two i r j s, listed, a, w, hB, hc, hsz, hk, hS, ⟨h1, h2⟩ => by
    simp only [schB, Bool.and_eq_true, decide_eq_true_eq, bne_iff_ne, ne_eq] at hB
    obtain ⟨hr, hik, hjk, hl, hB1, hB2⟩ := hB
    have hi' : i ∈ Region.ready .any ops listed := by rw [hr]; simp
    have hj' : j ∈ Region.ready .any ops listed := by rw [hr]; simp
    refine And.intro (fun h1 => by rw [hr] at h1; cases h1) (fun q hq => ?_)
    rw [hr] at hq
    have hqq : q = i ∨ q = j := by simpa using hq
    rcases hqq with hqq | hqq
    · subst hqq
      exact wpOp_mono (fun a' w' h' => ⟨fun _ => h'.1, wpG_of_S hsel hQ r _ _ _ hB1 (hc.set hi') (by simpa using hsz) (by rw [getD_set_ne true hik]; exact hk) h'.1 h'.2⟩) h1
    · subst hqq
      refine wpOp_mono (fun a' w' h' => ⟨fun _ => h'.1, ?_⟩) h2
      rw [hl]
      exact wpG_of_S hsel hQ s _ _ _ hB2 (hc.set hj') (by simpa using hsz) (by rw [getD_set_ne true hjk]; exact hk) h'.1 h'.2
  | .three i r j s m t, listed, a, w, hB, hc, hsz, hk, hS, ⟨h1, h2, h3⟩ => by
    simp only [schB, Bool.and_eq_true, decide_eq_true_eq, bne_iff_ne, ne_eq] at hB
    obtain ⟨hr, hik, hjk, hmk, ⟨hl, hl2⟩, hB1, hB2, hB3⟩ := hB
    have hi' : i ∈ Region.ready .any ops listed := by rw [hr]; simp
    have hj' : j ∈ Region.ready .any ops listed := by rw [hr]; simp
    have hm' : m ∈ Region.ready .any ops listed := by rw [hr]; simp
    refine And.intro (fun h1 => by rw [hr] at h1; cases h1) (fun q hq => ?_)
    rw [hr] at hq
    have hqq : q = i ∨ q = j ∨ q = m := by simpa using hq
    rcases hqq with hqq | hqq | hqq
    · subst hqq
      exact wpOp_mono (fun a' w' h' => ⟨fun _ => h'.1, wpG_of_S hsel hQ r _ _ _ hB1 (hc.set hi') (by simpa using hsz) (by rw [getD_set_ne true hik]; exact hk) h'.1 h'.2⟩) h1
    · subst hqq
      refine wpOp_mono (fun a' w' h' => ⟨fun _ => h'.1, ?_⟩) h2
      rw [hl]
      exact wpG_of_S hsel hQ s _ _ _ hB2 (hc.set hj') (by simpa using hsz) (by rw [getD_set_ne true hjk]; exact hk) h'.1 h'.2
    · subst hqq
      refine wpOp_mono (fun a' w' h' => ⟨fun _ => h'.1, ?_⟩) h3
      rw [hl2]
      exact wpG_of_S hsel hQ t _ _ _ hB3 (hc.set hm') (by simpa using hsz) (by rw [getD_set_ne true hmk]; exact hk) h'.1 h'.2
def schOk (ops : Array Oper) (k f0 : Nat) (r : Sc) : Bool :=
  Region.noSelect ops && (decide (k < ops.size) && (decide (r.len = ops.size) && schB ops k f0 r (Array.replicate ops.size false)))
/-- the law -/
theorem wp_region_sch {id : Nat} {a : Act} {w : World} (S : World → Prop) (k f0 : Nat) (r : Sc) (hm : P.follows .mixedOrders = true) (hB : schOk ops k f0 r = true)
    (hQ : ∀ c a d v w, Q (.panic c) (a.put d v) w → Q (.panic c) a w) (hS : S w.drew) (h : wpS P ops Q S r a w.drew) : (Code.region id ops true).wp P Q a w := by
  simp only [schOk, Bool.and_eq_true, decide_eq_true_eq] at hB
  obtain ⟨hsel, hk, hl, hB⟩ := hB
  refine wp_region_any hm ?_
  have := wpG_of_S (S := S) hsel hQ r (Array.replicate ops.size false) a w.drew hB (fun j oj _ hl => by rw [getD_replicate_false] at hl; cases hl) (by simp) (getD_in (by simpa using hk) (getD_replicate_false _ _)) hS h
  rw [hl] at this
  exact wpAny_of_G _ _ _ _ this
/-! the steps -/
theorem sch_end {e : List Nat} {l : List Oper} {a : Act} {w : World} (hp : Picks ops e l) (h : wpList P ops Q l a w) : wpS P ops Q S (.fin e) a w := ⟨l, hp, h⟩
theorem sch_still {i : Nat} {r : Sc} {o : Oper} {v : Value} {a : Act} {w : World} (hi : ops[i]? = some o) (hg : o.guard = none)
    (hy : ∀ wx, S wx → (execOp a.eval o).run P wx = .ok (.value v) wx) (h : wpS P ops Q S r (a.put o.dst v) w) : wpS P ops Q S (.st i r) a w :=
  ⟨o, v, hi, .inl ⟨by simp [Region.wanted, hg], hy⟩, h⟩
theorem sch_sw {i : Nat} {r : Sc} {o : Oper} {v : Value} {a : Act} {w : World} (hi : ops[i]? = some o) (hg : o.guard = none)
    (hy : ∀ wx, (execOp a.eval o).run P wx = .ok (.value v) wx) (h : wpS P ops Q S r (a.put o.dst v) w) : wpS P ops Q S (.sw i r) a w :=
  ⟨o, v, hi, .inl ⟨by simp [Region.wanted, hg], fun wx _ => hy wx⟩, h⟩
/-! .. and by the laws on lists of operations -/
theorem wp_thenQ {o : Oper} {a : Act} {w : World} {K : Act → World → Prop} (h : o.wp P a w (wpList P ops (Exit.then K Q) []) (Exit.then K Q)) : o.wp P a w K Q := by
  unfold Oper.wp at *
  generalize (execOp a.eval o).run P w = r at *
  cases r with
  | ok n w' => cases n <;> simp only [Oper.upon] at h ⊢ <;> first | exact h | exact Calls.mono h (fun e w'' he => by cases e <;> exact he) | exact Rows.mono h (fun _ _ he => he)
  | halt x w' => cases x <;> simp only [Oper.upon] at h ⊢ <;> exact h
abbrev thenS (P : Program) (ops : Array Oper) (Q : Exit → Act → World → Prop) (S : World → Prop) (r : Sc) : Exit → Act → World → Prop := Exit.then (fun a' w' => S w' ∧ wpS P ops Q S r a' w') Q
theorem effL_ {i : Nat} {r : Sc} {o : Oper} {a : Act} {w : World} (hi : ops[i]? = some o) (h : wpList P ops (thenS P ops Q S r) [o] a w) : wpOp P ops Q i (fun a' w' => S w' ∧ wpS P ops Q S r a' w') a w := by
  unfold wpOp
  simp only [hi]
  unfold wpList at h
  split
  · rename_i hw
    rw [if_pos hw] at h
    exact h.imp wp_thenQ id
  · rename_i hw
    rw [if_neg hw] at h
    exact h
theorem sch_next {r : Sc} {a : Act} {w : World} (hS : S w) (h : wpS P ops Q S r a w) : wpList P ops (thenS P ops Q S r) [] a w := ⟨hS, h⟩
theorem sch_ef {i : Nat} {r : Sc} {o : Oper} {a : Act} {w : World} (hi : ops[i]? = some o) (h : wpList P ops (thenS P ops Q S r) [o] a w) : wpS P ops Q S (.ef i r) a w := effL_ hi h
theorem sch_2 {i j : Nat} {r s : Sc} {o p : Oper} {a : Act} {w : World} (hi : ops[i]? = some o) (hj : ops[j]? = some p) (h : wpList P ops (thenS P ops Q S r) [o] a w) (h2 : wpList P ops (thenS P ops Q S s) [p] a w) : wpS P ops Q S (.two i r j s) a w := ⟨effL_ hi h, effL_ hj h2⟩
theorem sch_3 {i j m : Nat} {r s t : Sc} {o p q : Oper} {a : Act} {w : World} (hi : ops[i]? = some o) (hj : ops[j]? = some p) (hm : ops[m]? = some q) (h : wpList P ops (thenS P ops Q S r) [o] a w) (h2 : wpList P ops (thenS P ops Q S s) [p] a w)
    (h3 : wpList P ops (thenS P ops Q S t) [q] a w) : wpS P ops Q S (.three i r j s m t) a w := ⟨effL_ hi h, effL_ hj h2, effL_ hm h3⟩
theorem act_put (a : Act) (d : Tmp) (v : Value) (l : List Value) (h : a.tmps = l.toArray) : a.put (some d) v = { a with tmps := (l.set d v).toArray } := by unfold Act.put; rw [h]; simp
end
end Go.Proofs.YtiopbdodegopdaaDoor
