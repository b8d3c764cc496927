/- Texts WbLaw, Wok, Wos, Wby, Cpy, Cpw, Cps, Frp in one. -/
import Derived.Test.YtiopbdodegopdaaDoorKB
import Derived.Test.YtiopbdodegopdaaDoorKC
import Derived.Test.YtiopbdodegopdaaDoorKE
import Derived.Test.YtiopbdodegopdaaDoorKF
import Derived.Test.YtiopbdodegopdaaDoorKG
/- The bytes of a world and the world of bytes, plain. -/
namespace Go.Proofs.YtiopbdodegopdaaDoor
open Go.RowKit

def intsB (b : Bd) : List Int := [b.kind, b.owner, b.x, b.y, b.vx, b.vy, b.aim, b.life, b.timer]
def intsBs (l : List Bd) : List Int := l.flatMap intsB
theorem intsBs_cons (b : Bd) (l : List Bd) : intsBs (b :: l) = intsB b ++ intsBs l := rfl
theorem intsBs_append (l r : List Bd) : intsBs (l ++ r) = intsBs l ++ intsBs r := by simp [intsBs]
theorem intsBs_len (l : List Bd) : (intsBs l).length = l.length * 9 := by
  induction l with
  | nil => rfl
  | cons b l ih => rw [intsBs_cons, List.length_append, ih, List.length_cons]; show 9 + _ = _; omega
theorem intsBs_succ {l : List Bd} {k : Nat} (h : k < l.length) : intsBs (l.take (k + 1)) = intsBs (l.take k) ++ intsB (l[k]'h) := by
  rw [List.take_add_one, List.getElem?_eq_getElem h, intsBs_append]
  simp [intsBs]
def headW (w : Wd) : List Int := [w.tick, w.seed, (w.scores.length : Int)]
def listW (w : Wd) : List Int := headW w ++ w.scores ++ intsBs w.bodies
def bytesW (w : Wd) : ByteArray := if okW w = true then packI (listW w) else ⟨#[]⟩
theorem bytesW_no {w : Wd} (h : okW w = false) : bytesW w = ⟨#[]⟩ := if_neg (by rw [h]; simp)
theorem bytesW_yes {w : Wd} (h : okW w = true) : bytesW w = packI (listW w) := if_pos h
theorem listW_len (w : Wd) : (listW w).length = 3 + w.scores.length + w.bodies.length * 9 := by
  unfold listW
  rw [List.length_append, List.length_append, intsBs_len]
  show 3 + _ + _ = _
  omega
/-- the bodies of a list of numbers -/
def bdsF : Nat → List Int → List Bd
  | 0, _ => []
  | n + 1, l => ⟨iAt l 0, iAt l 1, iAt l 2, iAt l 3, iAt l 4, iAt l 5, iAt l 6, iAt l 7, iAt l 8⟩ :: bdsF n (l.drop 9)
def bdsOf (l : List Int) : List Bd := bdsF (l.length / 9) l
theorem bdsF_len : ∀ n l, (bdsF n l).length = n
  | 0, _ => rfl
  | n + 1, l => by rw [bdsF, List.length_cons, bdsF_len n]
theorem bdsF_succ : ∀ (n : Nat) (l : List Int), bdsF (n + 1) l = bdsF n l ++ [⟨iAt (l.drop (n * 9)) 0, iAt (l.drop (n * 9)) 1, iAt (l.drop (n * 9)) 2, iAt (l.drop (n * 9)) 3, iAt (l.drop (n * 9)) 4, iAt (l.drop (n * 9)) 5, iAt (l.drop (n * 9)) 6, iAt (l.drop (n * 9)) 7, iAt (l.drop (n * 9)) 8⟩]
  | 0, l => by simp [bdsF]
  | n + 1, l => by
    rw [bdsF, bdsF_succ n (l.drop 9), List.drop_drop, show 9 + n * 9 = (n + 1) * 9 by omega]
    rfl
theorem take9 (l : List Int) (h : 9 ≤ l.length) : l = [iAt l 0, iAt l 1, iAt l 2, iAt l 3, iAt l 4, iAt l 5, iAt l 6, iAt l 7, iAt l 8] ++ l.drop 9 := by
  match l, h with
  | a :: b :: c :: d :: e :: f :: g :: x :: y :: r, _ => rfl
theorem ints_bdsF : ∀ (n : Nat) (l : List Int), l.length = n * 9 → intsBs (bdsF n l) = l
  | 0, l, h => by
    obtain rfl : l = [] := List.eq_nil_of_length_eq_zero (by omega)
    rfl
  | n + 1, l, h => by
    rw [bdsF, intsBs_cons, ints_bdsF n (l.drop 9) (by rw [List.length_drop]; omega)]
    exact (take9 l (by omega)).symm
theorem bdsF_ints : ∀ (bs : List Bd), bdsF bs.length (intsBs bs) = bs
  | [] => rfl
  | b :: bs => by
    rw [List.length_cons, bdsF, intsBs_cons]
    show _ :: bdsF bs.length ((intsB b ++ intsBs bs).drop 9) = _
    rw [show (intsB b ++ intsBs bs).drop 9 = intsBs bs from rfl, bdsF_ints bs]
    rfl
/-- the world of rows and a list -/
def mkW (rows : List ByteArray) (l : List Int) : Wd := ⟨rows, iAt l 0, iAt l 1, (l.drop 3).take (iAt l 2).toNat, bdsF ((l.length - (3 + (iAt l 2).toNat)) / 9) (l.drop (3 + (iAt l 2).toNat))⟩
def fitL (l : List Int) : Prop := 3 ≤ l.length ∧ 1 ≤ iAt l 2 ∧ iAt l 2 ≤ 4 ∧ 3 + (iAt l 2).toNat ≤ l.length ∧ (l.length - (3 + (iAt l 2).toNat)) % 9 = 0
instance (l : List Int) : Decidable (fitL l) := by unfold fitL; infer_instance
theorem list_mk {rows : List ByteArray} {l : List Int} (h : fitL l) : listW (mkW rows l) = l := by
  obtain ⟨h1, h2, h3, h4, h5⟩ := h
  unfold listW headW mkW
  simp only
  rw [ints_bdsF _ _ (by rw [List.length_drop]; omega)]
  have e1 : (((l.drop 3).take (iAt l 2).toNat).length : Int) = iAt l 2 := by rw [List.length_take, List.length_drop]; omega
  rw [e1]
  have e2 : l.drop (3 + (iAt l 2).toNat) = (l.drop 3).drop (iAt l 2).toNat := by rw [List.drop_drop]
  rw [e2, List.append_assoc, List.take_append_drop]
  match l, h1 with
  | a :: b :: c :: r, _ => rfl
theorem mk_list (w : Wd) : mkW w.rows (listW w) = w := by
  have h2 : iAt (listW w) 2 = (w.scores.length : Int) := rfl
  have hl := listW_len w
  have hd : (listW w).drop 3 = w.scores ++ intsBs w.bodies := rfl
  have hd2 : (listW w).drop (3 + w.scores.length) = intsBs w.bodies := by
    rw [← List.drop_drop, hd, List.drop_left]
  unfold mkW
  rw [h2, Int.toNat_natCast, hd, hd2, List.take_left, hl, show (3 + w.scores.length + w.bodies.length * 9 - (3 + w.scores.length)) / 9 = w.bodies.length by omega, bdsF_ints]
  rfl
theorem fit_list {w : Wd} (h : 1 ≤ w.scores.length) (h4 : w.scores.length ≤ 4) : fitL (listW w) := by
  have h2 : iAt (listW w) 2 = (w.scores.length : Int) := rfl
  have hl := listW_len w
  unfold fitL
  rw [h2, hl, Int.toNat_natCast]
  omega
/-- ReadWorld -/
def zW : Wd := ⟨[], 0, 0, [], []⟩
def readOk (s : ByteArray) : Bool := (unpI s 0).2.2 && (decide ((unpI s 0).2.1 = (s.size : Int)) && decide (fitL (unpI s 0).1))
def readW (rows : List ByteArray) (s : ByteArray) : Wd × Bool := if readOk s = true ∧ okW (mkW rows (unpI s 0).1) = true then (mkW rows (unpI s 0).1, true) else (zW, false)
theorem readW_no {rows : List ByteArray} {s : ByteArray} (h : readOk s = false) : readW rows s = (zW, false) := if_neg (by rw [h]; simp)
theorem readW_bad {rows : List ByteArray} {s : ByteArray} {l : List Int} (hl : (unpI s 0).1 = l) (h : okW (mkW rows l) = false) : readW rows s = (zW, false) := by unfold readW; rw [hl]; exact if_neg (by rw [h]; simp)
theorem readW_yes {rows : List ByteArray} {s : ByteArray} {l : List Int} (hl : (unpI s 0).1 = l) (h1 : readOk s = true) (h : okW (mkW rows l) = true) : readW rows s = (mkW rows l, true) := by unfold readW; rw [hl]; exact if_pos ⟨h1, h⟩
/-- what was read is packed again as it was -/
theorem rdI_pack : ∀ {n : Nat} {L : List UInt8} {x : List Int × Nat}, rdI n L = some x → encsL x.1 = L.take x.2 ∧ okS x.1 = true
  | 0, L, x, h => by simp only [rdI, Option.some.injEq] at h; subst h; exact ⟨by simp [encsL], rfl⟩
  | n + 1, L, x, h => by
    rcases decV_cases L with hd | ⟨v, k, hd, _, h1, _, h2, _⟩
    · rw [rdI_no hd] at h; simp at h
    · rw [rdI_yes hd] at h
      cases hr : rdI n (L.drop k) with
      | none => rw [hr] at h; simp at h
      | some y =>
        rw [hr] at h
        simp only [Option.map_some, Option.some.injEq] at h
        subst h
        obtain ⟨a1, a2⟩ := rdI_pack hr
        obtain ⟨b1, b2, b3, b4, b5, b6⟩ := decV_yes hd
        have hs : signless (signed (v : Int)) = v := by
          unfold signed
          rw [if_neg (by omega)]
          split
          · rw [signless_pos (by omega) (by omega)]; omega
          · rw [signless_neg (by omega) (by omega)]; omega
        refine ⟨?_, ?_⟩
        · simp only [encsL]
          rw [hs, b6, a1, Int.toNat_natCast, List.take_add]
        · show okS (signed (v : Int) :: y.1) = true
          unfold okS
          rw [List.all_cons, hs]
          simp only [Bool.and_eq_true, decide_eq_true_eq]
          exact ⟨b1, a2⟩
theorem unpI_pack {s : ByteArray} (h1 : (unpI s 0).2.2 = true) (h2 : (unpI s 0).2.1 = (s.size : Int)) : packI (unpI s 0).1 = s := by
  have hd0 : decA s ((0 : Nat) : Int) = decV s.data.toList := by rw [decA_nat, List.drop_zero]
  rcases decV_cases s.data.toList with hd | ⟨v, k, hd, _, _⟩
  · rw [hd] at hd0
    have := unpI_no hd0
    rw [show ((0 : Nat) : Int) = 0 from rfl] at this
    rw [this] at h1
    cases h1
  · rw [hd] at hd0
    have ha := unpI_at hd0
    rw [show ((0 : Nat) : Int) = 0 from rfl, Nat.zero_add] at ha
    obtain ⟨b1, b2, b3, b4, b5, b6⟩ := decV_yes hd
    cases hr : rdI v (s.data.toList.drop k) with
    | none => rw [hr] at ha; rw [ha] at h1; cases h1
    | some x =>
      rw [hr] at ha
      simp only at ha
      rw [ha] at h2 ⊢
      simp only at h2 ⊢
      obtain ⟨c1, c2, c3⟩ := rdI_len hr
      obtain ⟨d1, d2⟩ := rdI_pack hr
      have hsz : s.data.toList.length = s.size := by rw [Array.length_toList]; rfl
      rw [packI_yes d2, c3, b6, d1, Int.toNat_natCast, ← List.take_add, List.take_of_length_le (by omega)]
theorem packI_ne {l : List Int} (h : okS l = true) (hl : l.length ≤ 1000000) : 0 < (packI l).size := by
  rw [packI_yes h]
  have he : encV (l.length : Nat) ≠ [] := by
    unfold encV
    rw [if_neg (by omega)]
    unfold encF
    split <;> simp
  show 0 < (encV (l.length : Nat) ++ encsL l).toArray.size
  simp only [List.size_toArray, List.length_append]
  have := List.length_pos_iff.2 he
  omega
/-- the reference's last test -/
theorem bytes_same {rows : List ByteArray} {s : ByteArray} {l : List Int} (hl : (unpI s 0).1 = l) (h : readOk s = true) (hw : okW (mkW rows l) = true) : bytesW (mkW rows l) = s := by
  unfold readOk at h
  simp only [Bool.and_eq_true, decide_eq_true_eq] at h
  obtain ⟨h1, h2, h3⟩ := h
  rw [bytesW_yes hw, ← hl, list_mk h3, unpI_pack h1 h2]
theorem bytes_other {rows : List ByteArray} {s : ByteArray} {l : List Int} (hl : (unpI s 0).1 = l) (h : readOk s = true) (hw : okW (mkW rows l) = false) : bytesW (mkW rows l) ≠ s := by
  rw [bytesW_no hw]
  unfold readOk at h
  simp only [Bool.and_eq_true, decide_eq_true_eq] at h
  obtain ⟨h1, h2, h3⟩ := h
  rintro rfl
  have h4 := h3.1
  have e : (unpI ⟨#[]⟩ 0).1 = [] := by
    have hd0 : decA ⟨#[]⟩ ((0 : Nat) : Int) = (0, 0, false) := decA_far (Nat.le_refl _)
    have := unpI_no hd0
    rw [show ((0 : Nat) : Int) = 0 from rfl] at this
    rw [this]
  rw [e] at h4
  simp at h4
theorem listW_okS {w : Wd} (h : WOk w) : okS (listW w) = true := by
  have hl := lvT_lv h.lv
  have e : ∀ x ∈ listW w, -1000001 ≤ x ∧ x ≤ 1000000 := by
    intro x hx
    unfold listW headW at hx
    rcases List.mem_append.1 hx with hx | hx
    · rcases List.mem_append.1 hx with hx | hx
      · have h1 := h.tick
        have h2 := h.seed
        have h3 := h.n
        simp only [List.mem_cons, List.not_mem_nil, or_false] at hx
        rcases hx with rfl | rfl | rfl <;> omega
      · have := h.sc x hx; omega
    · obtain ⟨b, hb, hxb⟩ := List.mem_flatMap.1 hx
      obtain ⟨j, hj, rfl⟩ := List.getElem_of_mem hb
      simp only [intsB, List.mem_cons, List.not_mem_nil, or_false] at hxb
      have h4 := h.n
      by_cases hk : j < w.scores.length
      · have hp := h.bods.pl j hk
        rw [bAt_eq hj] at hp
        have h0 := hp.kind
        have h1 := hp.owner
        have h2 := free_bd hl (by omega) (by omega) hp.free
        have h3 := hp.vx
        have h5 := hp.vy
        have h6 := hp.aim
        have h7 := hp.life
        have h8 : 0 ≤ (w.bodies[j]).timer ∧ (w.bodies[j]).timer ≤ 20 := by
          by_cases e : (w.bodies[j]).life = 0
          · have := hp.dead e; omega
          · have := hp.live e; omega
        rcases hxb with rfl | rfl | rfl | rfl | rfl | rfl | rfl | rfl | rfl <;> omega
      · have hp := h.bods.ot_at (by omega) hj
        have h0 := hp.kind
        have h1 := hp.owner
        have hsz : szOf (w.bodies[j]).kind = 4 ∨ szOf (w.bodies[j]).kind = 8 := by
          rcases h0 with h0 | h0 <;> rw [h0]
          · exact .inl rfl
          · exact .inr rfl
        have h2 := free_bd hl (by omega) (by omega) hp.free
        have h3 := hp.vx
        have h5 := hp.vy
        have h6 := hp.aim
        have h7 := hp.life
        have h8 : 0 ≤ (w.bodies[j]).timer ∧ (w.bodies[j]).timer ≤ 25 := by
          rcases h0 with h0 | h0
          · have := hp.shot h0; omega
          · have := hp.item h0; omega
        rcases hxb with rfl | rfl | rfl | rfl | rfl | rfl | rfl | rfl | rfl <;> omega
  refine List.all_eq_true.2 fun x hx => ?_
  have := e x hx
  unfold signless
  rw [if_neg (by omega)]
  simp only [decide_eq_true_eq]
  split <;> omega
/-- a valid world is read back from its bytes -/
theorem read_bytes {w : Wd} (h : WOk w) : readW w.rows (bytesW w) = (w, true) := by
  have hs := listW_okS h
  have hn := h.n
  have hm := h.bods.most
  have hlen := listW_len w
  have hb := bytesW_yes (ok_okW h)
  have hdl : (bytesW w).data.toList = encV ((listW w).length : Nat) ++ encsL (listW w) := by rw [hb, packI_yes hs]
  have hd0 : decA (bytesW w) ((0 : Nat) : Int) = (((listW w).length : Int), ((encV ((listW w).length : Nat)).length : Int), true) := by
    rw [decA_nat, List.drop_zero, hdl]
    exact decV_enc (by omega) (by omega) _
  have hr : rdI (listW w).length ((bytesW w).data.toList.drop (0 + (encV ((listW w).length : Nat)).length)) = some (listW w, (encsL (listW w)).length) := by
    rw [hdl, Nat.zero_add, List.drop_left]
    have := rdI_encs (listW w) [] hs
    rwa [List.append_nil] at this
  have hu := unpI_some hd0 hr
  rw [show ((0 : Nat) : Int) = 0 from rfl] at hu
  have hsz : ((bytesW w).size : Int) = ((encV ((listW w).length : Nat)).length : Int) + (encsL (listW w)).length := by
    have : (bytesW w).size = (bytesW w).data.toList.length := by rw [Array.length_toList]; rfl
    rw [this, hdl, List.length_append]; omega
  have hl1 : (unpI (bytesW w) 0).1 = listW w := by rw [hu]
  have hok : readOk (bytesW w) = true := by
    unfold readOk
    rw [hu, hsz]
    simp only [Bool.and_eq_true, decide_eq_true_eq]
    exact ⟨trivial, trivial, fit_list hn.1 hn.2⟩
  rw [readW_yes hl1 hok (by rw [mk_list]; exact ok_okW h), mk_list]
/-- SameWorld -/
def sameB (a b : Bd) : Bool := decide (a.kind = b.kind) && (decide (a.owner = b.owner) && (decide (a.x = b.x) && (decide (a.y = b.y) && (decide (a.vx = b.vx) && (decide (a.vy = b.vy) && (decide (a.aim = b.aim) && (decide (a.life = b.life) && decide (a.timer = b.timer))))))))
theorem sameB_iff {a b : Bd} : sameB a b = true ↔ a = b := by
  unfold sameB
  simp only [Bool.and_eq_true, decide_eq_true_eq]
  constructor
  · rintro ⟨h0, h1, h2, h3, h4, h5, h6, h7, h8⟩
    exact bd_ext ⟨h0, h1, h2, h3, h4, h5, h6, h7, h8⟩
  · rintro rfl
    simp
instance : DecidableEq Bd := fun a b => if h : sameB a b = true then isTrue (sameB_iff.1 h) else isFalse fun e => h (sameB_iff.2 e)
def sameS (a b : List ByteArray) : Bool := decide (a = b)
def sameBs (a b : List Bd) : Bool := decide (a = b)
def sameW (a b : Wd) : Bool := sameS a.rows b.rows && (decide (a.tick = b.tick) && (decide (a.seed = b.seed) && (decide (a.scores = b.scores) && sameBs a.bodies b.bodies)))
theorem sameW_refl (w : Wd) : sameW w w = true := by
  unfold sameW sameS sameBs; simp
end Go.Proofs.YtiopbdodegopdaaDoor
/- WorldOk, the program's. -/
namespace Go.Proofs.YtiopbdodegopdaaDoor
open Go.RowKit

theorem okW_iff {X : Wd} : okW X = true ↔ lvT X.rows = true ∧ inB X.tick 0 100000 = true ∧ inB X.seed 0 65535 = true ∧ (1 ≤ X.scores.length ∧ X.scores.length ≤ 4) ∧ scoresOk X.scores = true ∧ (X.scores.length ≤ X.bodies.length ∧ X.bodies.length ≤ 24) ∧ bodiesGo X.rows X.scores.length 0 X.bodies = true := by
  unfold okW
  simp only [Bool.and_eq_true, decide_eq_true_eq]
theorem okW_no {X : Wd} (h : okW X = true → False) : okW X = false := by cases hh : okW X; rfl; exact (h hh).elim
section
variable {X : Wd}
theorem okW_lv (h : lvT X.rows = false) : okW X = false := okW_no fun e => by have := (okW_iff.1 e).1; rw [h] at this; cases this
theorem okW_tick (h : inB X.tick 0 100000 = false) : okW X = false := okW_no fun e => by have := (okW_iff.1 e).2.1; rw [h] at this; cases this
theorem okW_seed (h : inB X.seed 0 65535 = false) : okW X = false := okW_no fun e => by have := (okW_iff.1 e).2.2.1; rw [h] at this; cases this
theorem okW_n (h : X.scores.length < 1 ∨ 4 < X.scores.length) : okW X = false := okW_no fun e => by have := (okW_iff.1 e).2.2.2.1; omega
theorem okW_sc {k : Nat} (hk : k < X.scores.length) (h : inB (X.scores[k]'hk) 0 1000000 = false) : okW X = false := okW_no fun e => by
  have := List.all_eq_true.1 (okW_iff.1 e).2.2.2.2.1 _ (List.getElem_mem hk)
  rw [h] at this; cases this
theorem okW_len (h : X.bodies.length < X.scores.length ∨ 24 < X.bodies.length) : okW X = false := okW_no fun e => by have := (okW_iff.1 e).2.2.2.2.2.1; omega
/-- what is asked of body k -/
def bodyAt (X : Wd) (k : Nat) : Prop := okBd X.rows X.scores.length (bAt X.bodies k) = true ∧ (k < X.scores.length ↔ (bAt X.bodies k).kind = 0) ∧ (k < X.scores.length → (bAt X.bodies k).owner = (k : Int))
theorem okW_bd {k : Nat} (hk : k < X.bodies.length) (h : ¬ bodyAt X k) : okW X = false := okW_no fun e => by
  have := bodiesGo_at (okW_iff.1 e).2.2.2.2.2.2 k hk
  rw [← bAt_eq hk, Nat.zero_add] at this
  exact h this
theorem okW_all (h1 : lvT X.rows = true) (h2 : inB X.tick 0 100000 = true) (h3 : inB X.seed 0 65535 = true) (h4 : 1 ≤ X.scores.length ∧ X.scores.length ≤ 4) (h5 : ∀ k (hk : k < X.scores.length), inB (X.scores[k]'hk) 0 1000000 = true)
    (h6 : X.scores.length ≤ X.bodies.length ∧ X.bodies.length ≤ 24) (h7 : ∀ k, k < X.bodies.length → bodyAt X k) : okW X = true :=
  okW_iff.2 ⟨h1, h2, h3, h4, List.all_eq_true.2 fun x hx => by obtain ⟨i, hi, rfl⟩ := List.mem_iff_getElem.1 hx; exact h5 i hi, h6, bodiesGo_mk fun j hj => by
    rw [Nat.zero_add, ← bAt_eq hj]; exact h7 j hj⟩
end
end Go.Proofs.YtiopbdodegopdaaDoor
/- WorldOk, the reference's. -/
namespace Go.Proofs.YtiopbdodegopdaaDoor
open Go.RowKit

theorem inB_out {x a b : Int} (h : inB x a b = false) : x < a ∨ b < x := by
  by_cases h1 : a ≤ x
  · by_cases h2 : x ≤ b
    · rw [inB_yes h1 h2] at h; cases h
    · omega
  · omega
set_option maxRecDepth 100000 in
set_option maxHeartbeats 8000000 in
theorem worldok_spec {u us ub : Value} {X : Wd} (w : World) (h : WAt w u us ub X) (hm : WSmall X) :
    Calls Tryd.prog 49 #[.agg #[u, .int .i64 X.tick, .int .i64 X.seed, us, ub]] w fun e w' => e = .returned (.bool (okW X)) ∧ Below w.heap.size w w' := by
  have HNlv := Lib.hid (okW_lv (X := X))
  have HNtk := Lib.hid (okW_tick (X := X))
  have HNsd := Lib.hid (okW_seed (X := X))
  have HNn := Lib.hid (okW_n (X := X))
  have HNsc := Lib.hid (fun (k : Nat) (hk : k < X.scores.length) (h : inB (X.scores[k]'hk) 0 1000000 = false) => okW_sc hk h)
  have HNln := Lib.hid (okW_len (X := X))
  have HNbd := Lib.hid (fun (k : Nat) (hk : k < X.bodies.length) (h : ¬ bodyAt X k) => okW_bd hk h)
  have HAll := Lib.hid (fun a b c d e f g => okW_all (X := X) a b c d e f g)
  have HBA : Hid (∀ k, bodyAt X k ↔ (okBd X.rows X.scores.length (bAt X.bodies k) = true ∧ (k < X.scores.length ↔ (bAt X.bodies k).kind = 0) ∧ (k < X.scores.length → (bAt X.bodies k).owner = (k : Int)))) := Lib.hid fun k => Iff.rfl
  generalize okW X = R at HNlv HNtk HNsd HNn HNsc HNln HNbd HAll ⊢
  generalize bodyAt X = BA at HNbd HAll HBA
  obtain ⟨hr, hs, hb⟩ := h
  obtain ⟨rows, tk, sd, sc, bs⟩ := X
  obtain ⟨m0, m1, m2, m3⟩ := hm
  simp only at hr hs hb m0 m1 m2 m3 HNlv HNtk HNsd HNn HNsc HNln HNbd HAll HBA ⊢
  have hs0 := hs
  have hb0 := hb
  obtain ⟨so, scap, rfl, hsc⟩ := hs.cell
  obtain ⟨bo, bcap, rfl, hbc⟩ := hb.cellB
  go_enter Tryd.func49, Tryd.ntmps49
  go_wp2_with fail
  generalize hw1 : w.alloc _ = w1
  have hb1 : Below w.heap.size w w1 := by rw [← hw1]; exact (Below.refl _ _).alloc (Nat.le_refl _) _
  have hA1 : WBlk w1 w.heap.size u tk sd (.slice so sc.length scap) (.slice bo bs.length bcap) := by rw [← hw1]; exact WBlk.new w _ u tk sd _ _
  clear hw1
  refine (lvok_spec _ (hr.below hb1) m0 m1).mono ?_
  rintro e wa ⟨rfl, ha⟩
  have hba := hb1.trans (ha.mono hb1.size)
  have hAa := hA1.below ha hA1.lt
  clear ha hA1 hb1
  obtain ⟨_, c0, c1, c2, c3, c4, _⟩ := id hAa
  cases hlv : lvT rows with
  | false =>
    have HN := Lib.hid (HNlv.out hlv)
    clear hlv
    go_wp2_with fail
    go_ret
    exact ⟨ret_bool (by rw [HN.out]), hba⟩
  | true =>
  have HLV := Lib.hid hlv
  clear hlv
  go_wp2_with fail
  refine (in_any _ _ _ _).mono ?_
  rintro e wx ⟨rfl, rfl⟩
  cases hc : inB tk 0 100000 with
  | false =>
    have HN := Lib.hid (HNtk.out hc)
    clear hc
    go_wp2_with fail
    go_ret
    exact ⟨ret_bool (by rw [HN.out]), hba⟩
  | true =>
  have HTK := Lib.hid hc
  clear hc
  go_wp2_with fail
  refine (in_any _ _ _ _).mono ?_
  rintro e wx ⟨rfl, rfl⟩
  cases hc : inB sd 0 65535 with
  | false =>
    have HN := Lib.hid (HNsd.out hc)
    clear hc
    go_wp2_with fail
    go_ret
    exact ⟨ret_bool (by rw [HN.out]), hba⟩
  | true =>
  have HSD := Lib.hid hc
  clear hc
  go_wp2_with fail
  refine (in_any _ _ _ _).mono ?_
  rintro e wx ⟨rfl, rfl⟩
  cases hc : inB (sc.length : Int) 1 4 with
  | false =>
    have HN := Lib.hid (HNn.out (by have := inB_out hc; omega))
    clear hc
    go_wp2_with fail
    go_ret
    exact ⟨ret_bool (by rw [HN.out]), hba⟩
  | true =>
  have HIN := Lib.hid hc
  clear hc
  go_wp2_with fail
  refine (in_any _ _ _ _).mono ?_
  rintro e wx ⟨rfl, rfl⟩
  cases hc : inB (bs.length : Int) (sc.length : Int) 24 with
  | false =>
    have HN := Lib.hid (HNln.out (by have := inB_out hc; omega))
    clear hc
    go_wp2_with fail
    go_ret
    exact ⟨ret_bool (by rw [HN.out]), hba⟩
  | true =>
  have HLN := Lib.hid hc
  clear hc
  have hn1 : 1 ≤ sc.length := by have := inB_iff.1 HIN.out; omega
  have hn4 : sc.length ≤ 4 := by have := inB_iff.1 HIN.out; omega
  have hl1 : sc.length ≤ bs.length := by have := inB_iff.1 HLN.out; omega
  have hl2 : bs.length ≤ 24 := by have := inB_iff.1 HLN.out; omega
  go_wp2_with fail
  go_loop [4] (fun i => ∃ k : Nat, k ≤ sc.length ∧ i = .int .i64 k ∧ Hid (∀ j (hj : j < sc.length), j < k → inB (sc[j]'hj) 0 1000000 = true)) (fun i => sc.length - (intOf i).toNat)
  case atStart => exact ⟨0, Nat.zero_le _, rfl, Lib.hid fun _ _ h => absurd h (Nat.not_lt_zero _)⟩
  case round =>
    obtain ⟨k, hk, rfl, HK⟩ := hrel
    by_cases hlt : k < sc.length
    · obtain ⟨g, off, rfl, hg, hcell⟩ := hsc (by omega)
      clear hsc hbc
      have e1 := (hba.cell hg).trans (hcell k hlt)
      clear hcell
      go_wp2_with fail
      refine (in_any _ _ _ _).mono ?_
      rintro e wx ⟨rfl, rfl⟩
      cases hin : inB (sc[k]'hlt) 0 1000000 with
      | false =>
        have HN := Lib.hid (HNsc.out _ hlt hin)
        clear hin
        go_wp2_with fail
        go_ret
        exact ⟨ret_bool (by rw [HN.out]), hba⟩
      | true =>
        have HK2 : Hid (∀ j (hj : j < sc.length), j < k + 1 → inB (sc[j]'hj) 0 1000000 = true) := Lib.hid fun j hj h' => by
          by_cases e : j = k
          · subst e; exact hin
          · exact HK.out j hj (by omega)
        clear hin
        go_wp2_with fail
        go_round
        case rel => exact ⟨k + 1, by omega, by go_num, HK2⟩
        case measure => simp [intOf]; omega
    · have HSC := Lib.hid (fun j (hj : j < sc.length) => HK.out j hj (by omega))
      clear hsc
      go_wp2_with fail
      go_loopw [5] (fun i wx => ∃ k : Nat, k ≤ bs.length ∧ i = .int .i64 k ∧ Hid (∀ j, j < k → BA j) ∧ WBlk wx w.heap.size u tk sd (.slice so sc.length scap) (.slice bo bs.length bcap) ∧ Below w.heap.size w wx) (fun i _ => bs.length - (intOf i).toNat)
      case atStart => exact ⟨0, Nat.zero_le _, rfl, Lib.hid fun _ h => absurd h (Nat.not_lt_zero _), hAa, hba⟩
      case round =>
        clear hAa hba c0 c1 c2 c3 c4
        obtain ⟨q, hq, rfl, HQ, hA, hbl⟩ := hrel
        obtain ⟨_, c0, c1, c2, c3, c4, _⟩ := id hA
        by_cases hql : q < bs.length
        · obtain ⟨g, off, rfl, hg, _⟩ := hbc (by omega)
          clear hbc
          have HR := ((hb0.elem hql).below hbl hg).range
          have HBq := Lib.hid (HBA.out q)
          have HNq := Lib.hid (HNbd.out _ hql)
          obtain ⟨b, hbq⟩ : ∃ b, bAt bs q = b := ⟨_, rfl⟩
          rw [hbq] at HR HBq
          clear hbq
          go_upto_region 13 with (first | (with_reducible refine load_bod (op := ⟨some 62, _, _, _, _, _⟩) rfl _ rfl g (off + q * 9) rfl b HR ?_) | (with_reducible refine store_bod (op := ⟨none, _, _, _, _, _⟩) rfl _ _ rfl wr.heap.size 0 rfl b rfl (zthere _ _) ?_))
          have hz := hbl.size
          have hq := newB hbl hz 75 b
          generalize hwn : World.setCells (World.alloc wr _) _ _ _ = wn
          rw [hwn] at hq
          obtain ⟨hBn, hbn, hkn⟩ := hq
          have hAn := hA.below hkn hA.lt
          clear hwn hA hbl hz hkn c0 c1 c2 c3 c4
          obtain ⟨_, c0, c1, c2, c3, c4, _⟩ := id hAn
          go_wp2_with (with_reducible refine load_bod (op := ⟨some 66, _, _, _, _, _⟩) rfl _ rfl wr.heap.size 0 rfl b hBn.range ?_)
          refine (l02body_ret (sc.length : Int) b _ (hr.below hbn) m0 m1 HLV.out (by omega) (by omega)).mono ?_
          rintro e wc ⟨rfl, hc⟩
          have hAc := hAn.below hc hAn.lt
          have hBc := hBn.below hc hBn.lt
          have hblc := hbn.trans (hc.mono hbn.size)
          clear hAn hBn hbn hc c0 c1 c2 c3 c4
          obtain ⟨_, c0, c1, c2, c3, c4, _⟩ := id hAc
          obtain ⟨_, d0, d1, _⟩ := id hBc
          cases hok : okBd rows sc.length b with
          | false =>
            have HN := Lib.hid (HNq.out (fun e => by have := (HBq.out.1 e).1; rw [hok] at this; cases this))
            clear hok
            go_wp2_with fail
            go_ret
            exact ⟨ret_bool (by rw [HN.out]), hblc⟩
          | true =>
            have HOK := Lib.hid hok
            clear hok
            by_cases hqn : q < sc.length
            · by_cases hk0 : b.kind = 0
              · by_cases hk1 : b.owner = (q : Int)
                · have HB : Hid (∀ j, j < q + 1 → BA j) := Lib.hid fun j hj => by
                    by_cases e : j = q
                    · subst e; exact HBq.out.2 ⟨HOK.out, ⟨fun _ => hk0, fun _ => hqn⟩, fun _ => hk1⟩
                    · exact HQ.out j (by omega)
                  go_wp2_with fail
                  go_roundw
                  case rel => exact ⟨q + 1, by omega, by go_num, HB, hAc, hblc⟩
                  case measure => simp [intOf]; omega
                · have HN := Lib.hid (HNq.out (fun e => hk1 ((HBq.out.1 e).2.2 hqn)))
                  have x1 : (b.owner == (q : Int)) = false := beq_eq_false_iff_ne.2 hk1
                  go_wp2_with fail
                  go_ret
                  exact ⟨ret_bool (by rw [HN.out]), hblc⟩
              · have HN := Lib.hid (HNq.out (fun e => hk0 ((HBq.out.1 e).2.1.1 hqn)))
                have x1 : (b.kind == 0) = false := beq_eq_false_iff_ne.2 hk0
                go_wp2_with fail
                go_ret
                exact ⟨ret_bool (by rw [HN.out]), hblc⟩
            · by_cases hk0 : b.kind = 0
              · have HN := Lib.hid (HNq.out (fun e => hqn ((HBq.out.1 e).2.1.2 hk0)))
                go_wp2_with fail
                go_ret
                exact ⟨ret_bool (by rw [HN.out]), hblc⟩
              · have HB : Hid (∀ j, j < q + 1 → BA j) := Lib.hid fun j hj => by
                  by_cases e : j = q
                  · subst e; exact HBq.out.2 ⟨HOK.out, ⟨fun h => absurd h hqn, fun h => absurd h hk0⟩, fun h => absurd h hqn⟩
                  · exact HQ.out j (by omega)
                have x1 : (b.kind == 0) = false := beq_eq_false_iff_ne.2 hk0
                go_wp2_with fail
                go_roundw
                case rel => exact ⟨q + 1, by omega, by go_num, HB, hAc, hblc⟩
                case measure => simp [intOf]; omega
        · have HN := Lib.hid (HAll.out HLV.out HTK.out HSD.out ⟨hn1, hn4⟩ HSC.out ⟨hl1, hl2⟩ fun j hj => HQ.out j (by omega))
          go_wp2_with fail
          go_ret
          exact ⟨ret_bool (by rw [HN.out]), hbl⟩
end Go.Proofs.YtiopbdodegopdaaDoor
/- WorldBytes and WorldSum, the program's and the reference's. -/
namespace Go.Proofs.YtiopbdodegopdaaDoor
open Go.RowKit

section
variable {ops : Array Oper} {rest : List Oper} {o : Oper} {a : Act} {Q : Exit → Act → World → Prop}
theorem intc_one (l : List Int) : ∀ u ∈ ints l, u.oneCell' = true := by
  intro u hu
  obtain ⟨_, _, rfl⟩ := List.mem_map.1 hu
  rfl
theorem ints_len (l : List Int) : (ints l).length = l.length := by simp [ints]
theorem ints_app (l r : List Int) : ints l ++ ints r = ints (l ++ r) := by simp [ints]
theorem Own.fitI {w : World} {base n : Nat} {v : Value} {l : List Int} (h : Own w base 1 v n (ints l)) : Own w base 1 v l.length (ints l) := by
  have e := h.len
  rw [ints_len, Nat.mul_one] at e
  rw [e]; exact h
/-- 'append(out, l...)' on a []int -/
theorem app_il (w : World) (hgd : o.guard = none) (s x : Operand) (ho : o.op = .call { callee := .builtin .append, args := #[s, x], argTypes := #[37, 37] }) (base : Nat)
    {v : Value} {n : Nat} {l : List Int} (hown : Own w base 1 v n (ints l)) (hv : a.eval s = v) {xv : Value} {m : Nat} {news : List Int} (hat : At w 1 xv m (ints news)) (hx : a.eval x = xv)
    (hbytes : (n + m) * 8 ≤ 140737488355328) (hbase : base ≤ w.heap.size)
    (hK : ∀ v' w', Own w' base 1 v' (l ++ news).length (ints (l ++ news)) → w.grownBy w' v.ownBlock → wpList Tryd.prog ops Q rest (a.put o.dst v') w') :
    wpList Tryd.prog ops Q (o :: rest) a w := by
  obtain ⟨i0, hi, hz0, hz1, hz2⟩ := info_parts info_int
  refine wpList_append_o (P := Tryd.prog) w hgd s x 37 37 ho base 3 i0 (.int .i64 0) 1 8 Tryd.underlying37 hi hz0 hz1 hz2 rfl hv hown _ m _ hx
    (src_at (P := Tryd.prog) Tryd.underlying37 hat (intc_one _)) (by unfold maxLen; omega) (by omega) (by omega) (fun v' w' h1 h2 h3 => ?_)
  rw [ints_app] at h1
  exact hK v' w' h1.fitI h2
/-- 'append(out, x, ..)' on a []int: the new elements lie in a block that was just laid -/
theorem app_ib (w : World) (C : Array Value) (hgd : o.guard = none) (s x : Operand) (ho : o.op = .call { callee := .builtin .append, args := #[s, x], argTypes := #[37, 37] }) (base : Nat)
    {v : Value} {n : Nat} {l : List Int} (hown : Own w base 1 v n (ints l)) (hv : a.eval s = v) (m c : Nat) (news : List Int) (hx : a.eval x = .slice (some ⟨w.heap.size, 0, none⟩) m c) (hC : Hid (C.toList = ints news)) (hm : m = news.length)
    (hbytes : (n + m) * 8 ≤ 140737488355328) (hbase : base ≤ w.heap.size)
    (hK : ∀ v' w', Own w' base 1 v' (l ++ news).length (ints (l ++ news)) → w.grownBy w' v.ownBlock → wpList Tryd.prog ops Q rest (a.put o.dst v') w') :
    wpList Tryd.prog ops Q (o :: rest) a (w.alloc (.cells C 3 (0, 0))) := by
  obtain ⟨i0, hi, hz0, hz1, hz2⟩ := info_parts info_int
  refine wpList_append_o (P := Tryd.prog) (w.alloc (.cells C 3 (0, 0))) hgd s x 37 37 ho base 3 i0 (.int .i64 0) 1 8 Tryd.underlying37 hi hz0 hz1 hz2 rfl hv (hown.alloc _) _ m (ints news) hx
    (Src.ofSlice (P := Tryd.prog) _ (size := 1) Tryd.underlying37 ⟨w.heap.size, 0, none⟩ m c (ints news) (by rw [ints_len, hm, Nat.mul_one]) (fun j u hu => ?_) (intc_one news))
    (by unfold maxLen; omega) (by omega) (by simp; omega) (fun v' w' h1 h2 h3 => ?_)
  · rw [Addr.add_lit, Nat.zero_add, World.cell?_alloc_new, ← hu, ← hC.out, Array.getElem?_toList]
  · rw [ints_app] at h1
    exact hK v' w' h1.fitI (grownBy_trans (World.grownBy_alloc w _ _) h2)
end
theorem okW_sizes {X : Wd} (h : okW X = true) : X.scores.length ≤ 4 ∧ X.bodies.length ≤ 24 := ⟨(okW_ok h).n.2, (okW_ok h).bods.most⟩
end Go.Proofs.YtiopbdodegopdaaDoor
/- Copies of levels and worlds: copyLevel, l02CopyLevel, copyWorld, l02Copy. -/
namespace Go.Proofs.YtiopbdodegopdaaDoor
open Go.RowKit

section
variable {ops : Array Oper} {rest : List Oper} {o : Oper} {a : Act} {Q : Exit → Act → World → Prop}
theorem strc_len (l : List ByteArray) : (l.map Value.string).length = l.length := by simp
/-- 'append(out, l...)' on a []string -/
theorem app_sl (w : World) (hgd : o.guard = none) (s x : Operand) (ho : o.op = .call { callee := .builtin .append, args := #[s, x], argTypes := #[25, 25] }) (base : Nat)
    {v : Value} {n : Nat} {l : List ByteArray} (hown : Own w base 1 v n (l.map Value.string)) (hv : a.eval s = v) {xv : Value} {m : Nat} {news : List ByteArray} (hat : At w 1 xv m (news.map Value.string)) (hx : a.eval x = xv)
    (hbytes : (n + m) * 16 ≤ 140737488355328) (hbase : base ≤ w.heap.size)
    (hK : ∀ v' w', Own w' base 1 v' (l ++ news).length ((l ++ news).map Value.string) → w.grownBy w' v.ownBlock → wpList Tryd.prog ops Q rest (a.put o.dst v') w') :
    wpList Tryd.prog ops Q (o :: rest) a w := by
  obtain ⟨i0, hi, hz0, hz1, hz2⟩ := info_parts info_str
  refine wpList_append_o (P := Tryd.prog) w hgd s x 25 25 ho base 9 i0 (.string ⟨#[]⟩) 1 16 Tryd.underlying25 hi hz0 hz1 hz2 rfl hv hown _ m _ hx
    (src_at (P := Tryd.prog) Tryd.underlying25 hat (strs_one _)) (by unfold maxLen; omega) (by omega) (by omega) (fun v' w' h1 h2 h3 => ?_)
  rw [← List.map_append] at h1
  exact hK v' w' h1.fitS h2
end
set_option maxHeartbeats 1000000 in
theorem copylev_spec {u : Value} {l : List ByteArray} (w : World) (h : At w 1 u l.length (l.map Value.string)) (hm : l.length ≤ 1048576) :
    Calls Tryd.prog 47 #[.agg #[u]] w fun e w' => ∃ x, e = .returned (.agg #[x]) ∧ Own w' w.heap.size 1 x l.length (l.map Value.string) ∧ Below w.heap.size w w' := by
  have h' := h
  obtain ⟨ao, cap, rfl, hc⟩ := h.cellS
  clear hc h
  go_enter Tryd.func47, Tryd.ntmps47
  go_upto_region 1 with (fail)
  generalize hw1 : (w.alloc _).alloc _ = w1
  have hb1 : Below w.heap.size w w1 := by rw [← hw1]; exact ((Below.refl _ _).alloc (Nat.le_refl _) _).alloc (by simp) _
  have s1 : w1.heap.size = w.heap.size + 2 := by rw [← hw1]; simp
  have c1 : w1.cell? ⟨w.heap.size, 0, none⟩ = some (.slice ao l.length cap) := by rw [← hw1]; exact cell_alloc_lt (World.cell?_alloc_new _ _ _ 0) _ (by simp)
  have c2 : w1.cell? ⟨w.heap.size + 1, 0, none⟩ = some (.slice none 0 0) := by rw [← hw1]; simp [World.cell?_alloc_at]
  have f2 : w1.frozen? ⟨w.heap.size + 1, 0, none⟩ = false := by rw [← hw1]; simp [World.frozen?_alloc_at]
  clear hw1
  have hW : Below w1.heap.size w1 (w1.alloc (.cells #[] 9)) := (Below.refl _ _).alloc (Nat.le_refl _) _
  have hE : Own (w1.alloc (.cells #[] 9)) (w.heap.size + 2) 1 (.slice (some ⟨w1.heap.size, 0, none⟩) 0 0) 0 (List.map Value.string []) := Own.lit (n := 0) 9 rfl rfl (by omega) (by unfold maxLen; omega)
  rw [s1] at hE
  have hA := h'.below (hb1.trans (hW.mono hb1.size))
  go_wp2_with (with_reducible refine app_sl (o := ⟨some 6, _, _, _, _, _⟩) _ rfl _ _ rfl (w.heap.size + 2) (l := []) hE rfl hA rfl (by omega) (by simp; omega) ?_)
  intro v' wa hO hg
  have hk : Below w1.heap.size w1 wa := hW.trans ((Below.refl w1.heap.size _).grown hg (by simp) (fun k h => by simp only [Value.ownBlock, Option.some.injEq] at h; omega))
  obtain ⟨xo, xc, rfl⟩ := hO.slice_
  have d2 : wa.cell? ⟨w.heap.size + 1, 0, none⟩ = some (.slice none 0 0) := (hk.cell (by show w.heap.size + 1 < _; omega)).trans c2
  have g2 : wa.frozen? ⟨w.heap.size + 1, 0, none⟩ = false := (hk.frozen (by show w.heap.size + 1 < _; omega)).trans f2
  have hba := hb1.trans (hk.mono hb1.size)
  clear c1 c2 f2 hg
  obtain ⟨wn, hwn⟩ : ∃ wn, wn = wa.setCell ⟨w.heap.size + 1, 0, none⟩ (.slice xo l.length xc) := ⟨_, rfl⟩
  have r1 : wn.cell? ⟨w.heap.size + 1, 0, none⟩ = some (.slice xo l.length xc) := by rw [hwn]; exact World.cell?_setCell_same' _ _ _ (by rw [d2]; rfl)
  have hbn : Below w.heap.size w wn := by rw [hwn]; exact hba.setCell (by show w.heap.size ≤ w.heap.size + 1; omega) _
  have hxn : Own wn w.heap.size 1 (.slice xo l.length xc) l.length (l.map Value.string) := by
    rw [hwn]
    exact (hO.mono (by omega)).other (by intro g hg; have := (hO.ge g hg).1; show g ≠ w.heap.size + 1; omega) _
  have HWN := Lib.hid hwn; clear hwn
  go_wp2_with fail
  rw [← HWN.out]
  (try simp only [Exit.inBlock, Exit.then])
  refine bodyPost_ret (by simp [results, Tryd.results47, go_sem, r1]; try rfl) rfl ?_
  exact ⟨_, rfl, hxn, hbn⟩
end Go.Proofs.YtiopbdodegopdaaDoor
/- Copies of worlds: copyWorld, l02Copy. -/
namespace Go.Proofs.YtiopbdodegopdaaDoor
open Go.RowKit

end Go.Proofs.YtiopbdodegopdaaDoor
/- l02Copy, the reference's copy of a world. -/
namespace Go.Proofs.YtiopbdodegopdaaDoor
open Go.RowKit

end Go.Proofs.YtiopbdodegopdaaDoor
/- freshPlayer and l02Fresh. -/
namespace Go.Proofs.YtiopbdodegopdaaDoor
open Go.RowKit

set_option maxRecDepth 100000 in
set_option maxHeartbeats 2000000 in
theorem fresh_spec {u : Value} {l : List ByteArray} (k : Nat) (w : World) (h : At w 1 u l.length (l.map Value.string)) (hm : l.length ≤ 1048576) (hz : ∀ s ∈ l, s.size ≤ 1048576) :
    Calls Tryd.prog 48 #[.agg #[u], .int .i64 (k : Int)] w fun e w' => e = .returned (freshB l k).val ∧ Below w.heap.size w w' := by
  have HS : ∀ wx, Below w.heap.size w wx → Calls Tryd.prog 58 #[.agg #[u], .int .i64 (k : Int)] wx fun e w' => e = .returned (.tuple #[.int .i64 (startT l k).1, .int .i64 (startT l k).2]) ∧ Below wx.heap.size wx w' := fun wx hx => start_spec k wx (h.below hx) hm hz
  have HF : Hid (freshB l k = ⟨0, k, (startT l k).1, (startT l k).2, 0, 0, 1, 3, 0⟩) := Lib.hid rfl
  generalize freshB l k = F at *
  generalize startT l k = P at *
  obtain ⟨P1, P2⟩ := P
  go_enter Tryd.func48, Tryd.ntmps48
  go_upto_region 1 with (fail)
  generalize hw1 : (w.alloc _).alloc _ = w1
  have hb1 : Below w.heap.size w w1 := by rw [← hw1]; exact ((Below.refl _ _).alloc (Nat.le_refl _) _).alloc (by simp) _
  have hL1 : w1.cell? ⟨w.heap.size, 0, none⟩ = some u := by rw [← hw1]; exact cell_alloc_lt (World.cell?_alloc_new w _ _ 0) _ (by simp)
  have hR1 : Blk w1 (w.heap.size + 1) zB := by
    rw [← hw1]
    have := Blk.new (w.alloc (.cells #[u] 31)) 75 zB
    rwa [show (w.alloc (.cells #[u] 31)).heap.size = w.heap.size + 1 by simp] at this
  clear hw1
  go_wp2_with fail
  refine (HS _ hb1).mono ?_
  rintro e wa ⟨rfl, ha⟩
  have hb2 := hb1.trans (ha.mono hb1.size)
  have hR2 := hR1.below ha hR1.lt
  clear hb1 hR1 hL1 ha HS h
  have hRt : wa.there (w.heap.size + 1) 0 9 := hR2.there
  have hRs := (hR2.setAll ⟨0, k, P1, P2, 0, 0, 1, 3, 0⟩).range
  have hbs := setCells_below (o := 0) (vs := (⟨0, k, P1, P2, 0, 0, 1, 3, 0⟩ : Bd).cells) hb2 (show w.heap.size ≤ w.heap.size + 1 by omega)
  go_upto_region 2 with (fail)
  apply wp_region_lit
  iterate 12 go_step
  refine store_bod (op := ⟨none, _, _, _, _, _⟩) rfl _ _ rfl (w.heap.size + 1) 0 rfl ⟨0, k, P1, P2, 0, 0, 1, 3, 0⟩ ?_ hRt ?_
  · rfl
  generalize hwn : World.setCells _ _ _ _ = wn
  rw [hwn] at hRs hbs
  clear hwn
  repeat go_step
  refine bodyPost_ret (res_bod1 rfl rfl hRs) rfl ?_
  exact ⟨by rw [HF.out], hbs⟩
end Go.Proofs.YtiopbdodegopdaaDoor
