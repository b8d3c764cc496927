/- The bytes of a world and the world of bytes, plain. -/
import Derived.Test.YtkcknikaidbeoaaStayLaw
import Derived.Test.YtkcknikaidbeoaaIntLaw
namespace Go.Proofs.Ytkcknikaidbeoaa
open Go.RowKit

def intsB (b : Bd) : List Int := [b.kind, b.owner, b.x, b.y, b.vx, b.vy, b.aim, b.life, b.timer]
def intsBs (l : List Bd) : List Int := l.flatMap intsB
theorem intsBs_cons (b : Bd) (l : List Bd) : intsBs (b :: l) = intsB b ++ intsBs l := rfl
theorem intsBs_append (l r : List Bd) : intsBs (l ++ r) = intsBs l ++ intsBs r := by simp [intsBs]
theorem intsBs_len (l : List Bd) : (intsBs l).length = l.length * 9 := by
  induction l with
  | nil => rfl
  | cons b l ih => rw [intsBs_cons, List.length_append, ih, List.length_cons]; show 9 + _ = _; omega
theorem intsBs_succ {l : List Bd} {k : Nat} (h : k < l.length) : intsBs (l.take (k + 1)) = intsBs (l.take k) ++ intsB (l[k]'h) := by
  rw [List.take_add_one, List.getElem?_eq_getElem h, intsBs_append]
  simp [intsBs]
def headW (w : Wd) : List Int := [w.tick, w.seed, (w.scores.length : Int)]
def listW (w : Wd) : List Int := headW w ++ w.scores ++ intsBs w.bodies
def bytesW (w : Wd) : ByteArray := if okW w = true then packI (listW w) else ⟨#[]⟩
theorem bytesW_no {w : Wd} (h : okW w = false) : bytesW w = ⟨#[]⟩ := if_neg (by rw [h]; simp)
theorem bytesW_yes {w : Wd} (h : okW w = true) : bytesW w = packI (listW w) := if_pos h
theorem listW_len (w : Wd) : (listW w).length = 3 + w.scores.length + w.bodies.length * 9 := by
  unfold listW
  rw [List.length_append, List.length_append, intsBs_len]
  show 3 + _ + _ = _
  omega
/-- the bodies of a list of numbers -/
def bdsF : Nat → List Int → List Bd
  | 0, _ => []
  | n + 1, l => ⟨iAt l 0, iAt l 1, iAt l 2, iAt l 3, iAt l 4, iAt l 5, iAt l 6, iAt l 7, iAt l 8⟩ :: bdsF n (l.drop 9)
def bdsOf (l : List Int) : List Bd := bdsF (l.length / 9) l
theorem bdsF_len : ∀ n l, (bdsF n l).length = n
  | 0, _ => rfl
  | n + 1, l => by rw [bdsF, List.length_cons, bdsF_len n]
theorem bdsF_succ : ∀ (n : Nat) (l : List Int), bdsF (n + 1) l = bdsF n l ++ [⟨iAt (l.drop (n * 9)) 0, iAt (l.drop (n * 9)) 1, iAt (l.drop (n * 9)) 2, iAt (l.drop (n * 9)) 3, iAt (l.drop (n * 9)) 4, iAt (l.drop (n * 9)) 5, iAt (l.drop (n * 9)) 6, iAt (l.drop (n * 9)) 7, iAt (l.drop (n * 9)) 8⟩]
  | 0, l => by simp [bdsF]
  | n + 1, l => by
    rw [bdsF, bdsF_succ n (l.drop 9), List.drop_drop, show 9 + n * 9 = (n + 1) * 9 by omega]
    rfl
theorem take9 (l : List Int) (h : 9 ≤ l.length) : l = [iAt l 0, iAt l 1, iAt l 2, iAt l 3, iAt l 4, iAt l 5, iAt l 6, iAt l 7, iAt l 8] ++ l.drop 9 := by
  match l, h with
  | a :: b :: c :: d :: e :: f :: g :: x :: y :: r, _ => rfl
theorem ints_bdsF : ∀ (n : Nat) (l : List Int), l.length = n * 9 → intsBs (bdsF n l) = l
  | 0, l, h => by
    obtain rfl : l = [] := List.eq_nil_of_length_eq_zero (by omega)
    rfl
  | n + 1, l, h => by
    rw [bdsF, intsBs_cons, ints_bdsF n (l.drop 9) (by rw [List.length_drop]; omega)]
    exact (take9 l (by omega)).symm
theorem bdsF_ints : ∀ (bs : List Bd), bdsF bs.length (intsBs bs) = bs
  | [] => rfl
  | b :: bs => by
    rw [List.length_cons, bdsF, intsBs_cons]
    show _ :: bdsF bs.length ((intsB b ++ intsBs bs).drop 9) = _
    rw [show (intsB b ++ intsBs bs).drop 9 = intsBs bs from rfl, bdsF_ints bs]
    rfl
/-- the world of rows and a list -/
def mkW (rows : List ByteArray) (l : List Int) : Wd := ⟨rows, iAt l 0, iAt l 1, (l.drop 3).take (iAt l 2).toNat, bdsF ((l.length - (3 + (iAt l 2).toNat)) / 9) (l.drop (3 + (iAt l 2).toNat))⟩
def fitL (l : List Int) : Prop := 3 ≤ l.length ∧ 1 ≤ iAt l 2 ∧ iAt l 2 ≤ 4 ∧ 3 + (iAt l 2).toNat ≤ l.length ∧ (l.length - (3 + (iAt l 2).toNat)) % 9 = 0
instance (l : List Int) : Decidable (fitL l) := by unfold fitL; infer_instance
theorem list_mk {rows : List ByteArray} {l : List Int} (h : fitL l) : listW (mkW rows l) = l := by
  obtain ⟨h1, h2, h3, h4, h5⟩ := h
  unfold listW headW mkW
  simp only
  rw [ints_bdsF _ _ (by rw [List.length_drop]; omega)]
  have e1 : (((l.drop 3).take (iAt l 2).toNat).length : Int) = iAt l 2 := by rw [List.length_take, List.length_drop]; omega
  rw [e1]
  have e2 : l.drop (3 + (iAt l 2).toNat) = (l.drop 3).drop (iAt l 2).toNat := by rw [List.drop_drop]
  rw [e2, List.append_assoc, List.take_append_drop]
  match l, h1 with
  | a :: b :: c :: r, _ => rfl
theorem mk_list (w : Wd) : mkW w.rows (listW w) = w := by
  have h2 : iAt (listW w) 2 = (w.scores.length : Int) := rfl
  have hl := listW_len w
  have hd : (listW w).drop 3 = w.scores ++ intsBs w.bodies := rfl
  have hd2 : (listW w).drop (3 + w.scores.length) = intsBs w.bodies := by
    rw [← List.drop_drop, hd, List.drop_left]
  unfold mkW
  rw [h2, Int.toNat_natCast, hd, hd2, List.take_left, hl, show (3 + w.scores.length + w.bodies.length * 9 - (3 + w.scores.length)) / 9 = w.bodies.length by omega, bdsF_ints]
  rfl
theorem fit_list {w : Wd} (h : 1 ≤ w.scores.length) (h4 : w.scores.length ≤ 4) : fitL (listW w) := by
  have h2 : iAt (listW w) 2 = (w.scores.length : Int) := rfl
  have hl := listW_len w
  unfold fitL
  rw [h2, hl, Int.toNat_natCast]
  omega
/-- ReadWorld -/
def zW : Wd := ⟨[], 0, 0, [], []⟩
def readOk (s : ByteArray) : Bool := (unpI s 0).2.2 && (decide ((unpI s 0).2.1 = (s.size : Int)) && decide (fitL (unpI s 0).1))
def readW (rows : List ByteArray) (s : ByteArray) : Wd × Bool := if readOk s = true ∧ okW (mkW rows (unpI s 0).1) = true then (mkW rows (unpI s 0).1, true) else (zW, false)
theorem readW_no {rows : List ByteArray} {s : ByteArray} (h : readOk s = false) : readW rows s = (zW, false) := if_neg (by rw [h]; simp)
theorem readW_bad {rows : List ByteArray} {s : ByteArray} {l : List Int} (hl : (unpI s 0).1 = l) (h : okW (mkW rows l) = false) : readW rows s = (zW, false) := by unfold readW; rw [hl]; exact if_neg (by rw [h]; simp)
theorem readW_yes {rows : List ByteArray} {s : ByteArray} {l : List Int} (hl : (unpI s 0).1 = l) (h1 : readOk s = true) (h : okW (mkW rows l) = true) : readW rows s = (mkW rows l, true) := by unfold readW; rw [hl]; exact if_pos ⟨h1, h⟩
/-- what was read is packed again as it was -/
theorem rdI_pack : ∀ {n : Nat} {L : List UInt8} {x : List Int × Nat}, rdI n L = some x → encsL x.1 = L.take x.2 ∧ okS x.1 = true
  | 0, L, x, h => by simp only [rdI, Option.some.injEq] at h; subst h; exact ⟨by simp [encsL], rfl⟩
  | n + 1, L, x, h => by
    rcases decV_cases L with hd | ⟨v, k, hd, _, h1, _, h2, _⟩
    · rw [rdI_no hd] at h; simp at h
    · rw [rdI_yes hd] at h
      cases hr : rdI n (L.drop k) with
      | none => rw [hr] at h; simp at h
      | some y =>
        rw [hr] at h
        simp only [Option.map_some, Option.some.injEq] at h
        subst h
        obtain ⟨a1, a2⟩ := rdI_pack hr
        obtain ⟨b1, b2, b3, b4, b5, b6⟩ := decV_yes hd
        have hs : signless (signed (v : Int)) = v := by
          unfold signed
          rw [if_neg (by omega)]
          split
          · rw [signless_pos (by omega) (by omega)]; omega
          · rw [signless_neg (by omega) (by omega)]; omega
        refine ⟨?_, ?_⟩
        · simp only [encsL]
          rw [hs, b6, a1, Int.toNat_natCast, List.take_add]
        · show okS (signed (v : Int) :: y.1) = true
          unfold okS
          rw [List.all_cons, hs]
          simp only [Bool.and_eq_true, decide_eq_true_eq]
          exact ⟨b1, a2⟩
theorem unpI_pack {s : ByteArray} (h1 : (unpI s 0).2.2 = true) (h2 : (unpI s 0).2.1 = (s.size : Int)) : packI (unpI s 0).1 = s := by
  have hd0 : decA s ((0 : Nat) : Int) = decV s.data.toList := by rw [decA_nat, List.drop_zero]
  rcases decV_cases s.data.toList with hd | ⟨v, k, hd, _, _⟩
  · rw [hd] at hd0
    have := unpI_no hd0
    rw [show ((0 : Nat) : Int) = 0 from rfl] at this
    rw [this] at h1
    cases h1
  · rw [hd] at hd0
    have ha := unpI_at hd0
    rw [show ((0 : Nat) : Int) = 0 from rfl, Nat.zero_add] at ha
    obtain ⟨b1, b2, b3, b4, b5, b6⟩ := decV_yes hd
    cases hr : rdI v (s.data.toList.drop k) with
    | none => rw [hr] at ha; rw [ha] at h1; cases h1
    | some x =>
      rw [hr] at ha
      simp only at ha
      rw [ha] at h2 ⊢
      simp only at h2 ⊢
      obtain ⟨c1, c2, c3⟩ := rdI_len hr
      obtain ⟨d1, d2⟩ := rdI_pack hr
      have hsz : s.data.toList.length = s.size := by rw [Array.length_toList]; rfl
      rw [packI_yes d2, c3, b6, d1, Int.toNat_natCast, ← List.take_add, List.take_of_length_le (by omega)]
theorem packI_ne {l : List Int} (h : okS l = true) (hl : l.length ≤ 1000000) : 0 < (packI l).size := by
  rw [packI_yes h]
  have he : encV (l.length : Nat) ≠ [] := by
    unfold encV
    rw [if_neg (by omega)]
    unfold encF
    split <;> simp
  show 0 < (encV (l.length : Nat) ++ encsL l).toArray.size
  simp only [List.size_toArray, List.length_append]
  have := List.length_pos_iff.2 he
  omega
/-- the reference's last test -/
theorem bytes_same {rows : List ByteArray} {s : ByteArray} {l : List Int} (hl : (unpI s 0).1 = l) (h : readOk s = true) (hw : okW (mkW rows l) = true) : bytesW (mkW rows l) = s := by
  unfold readOk at h
  simp only [Bool.and_eq_true, decide_eq_true_eq] at h
  obtain ⟨h1, h2, h3⟩ := h
  rw [bytesW_yes hw, ← hl, list_mk h3, unpI_pack h1 h2]
theorem bytes_other {rows : List ByteArray} {s : ByteArray} {l : List Int} (hl : (unpI s 0).1 = l) (h : readOk s = true) (hw : okW (mkW rows l) = false) : bytesW (mkW rows l) ≠ s := by
  rw [bytesW_no hw]
  unfold readOk at h
  simp only [Bool.and_eq_true, decide_eq_true_eq] at h
  obtain ⟨h1, h2, h3⟩ := h
  rintro rfl
  have h4 := h3.1
  have e : (unpI ⟨#[]⟩ 0).1 = [] := by
    have hd0 : decA ⟨#[]⟩ ((0 : Nat) : Int) = (0, 0, false) := decA_far (Nat.le_refl _)
    have := unpI_no hd0
    rw [show ((0 : Nat) : Int) = 0 from rfl] at this
    rw [this]
  rw [e] at h4
  simp at h4
theorem listW_okS {w : Wd} (h : WOk w) : okS (listW w) = true := by
  have hl := lvT_lv h.lv
  have e : ∀ x ∈ listW w, -1000001 ≤ x ∧ x ≤ 1000000 := by
    intro x hx
    unfold listW headW at hx
    rcases List.mem_append.1 hx with hx | hx
    · rcases List.mem_append.1 hx with hx | hx
      · have h1 := h.tick
        have h2 := h.seed
        have h3 := h.n
        simp only [List.mem_cons, List.not_mem_nil, or_false] at hx
        rcases hx with rfl | rfl | rfl <;> omega
      · have := h.sc x hx; omega
    · obtain ⟨b, hb, hxb⟩ := List.mem_flatMap.1 hx
      obtain ⟨j, hj, rfl⟩ := List.getElem_of_mem hb
      simp only [intsB, List.mem_cons, List.not_mem_nil, or_false] at hxb
      have h4 := h.n
      by_cases hk : j < w.scores.length
      · have hp := h.bods.pl j hk
        rw [bAt_eq hj] at hp
        have h0 := hp.kind
        have h1 := hp.owner
        have h2 := free_bd hl (by omega) (by omega) hp.free
        have h3 := hp.vx
        have h5 := hp.vy
        have h6 := hp.aim
        have h7 := hp.life
        have h8 : 0 ≤ (w.bodies[j]).timer ∧ (w.bodies[j]).timer ≤ 20 := by
          by_cases e : (w.bodies[j]).life = 0
          · have := hp.dead e; omega
          · have := hp.live e; omega
        rcases hxb with rfl | rfl | rfl | rfl | rfl | rfl | rfl | rfl | rfl <;> omega
      · have hp := h.bods.ot_at (by omega) hj
        have h0 := hp.kind
        have h1 := hp.owner
        have hsz : szOf (w.bodies[j]).kind = 4 ∨ szOf (w.bodies[j]).kind = 8 := by
          rcases h0 with h0 | h0 <;> rw [h0]
          · exact .inl rfl
          · exact .inr rfl
        have h2 := free_bd hl (by omega) (by omega) hp.free
        have h3 := hp.vx
        have h5 := hp.vy
        have h6 := hp.aim
        have h7 := hp.life
        have h8 : 0 ≤ (w.bodies[j]).timer ∧ (w.bodies[j]).timer ≤ 25 := by
          rcases h0 with h0 | h0
          · have := hp.shot h0; omega
          · have := hp.item h0; omega
        rcases hxb with rfl | rfl | rfl | rfl | rfl | rfl | rfl | rfl | rfl <;> omega
  refine List.all_eq_true.2 fun x hx => ?_
  have := e x hx
  unfold signless
  rw [if_neg (by omega)]
  simp only [decide_eq_true_eq]
  split <;> omega
/-- a valid world is read back from its bytes -/
theorem read_bytes {w : Wd} (h : WOk w) : readW w.rows (bytesW w) = (w, true) := by
  have hs := listW_okS h
  have hn := h.n
  have hm := h.bods.most
  have hlen := listW_len w
  have hb := bytesW_yes (ok_okW h)
  have hdl : (bytesW w).data.toList = encV ((listW w).length : Nat) ++ encsL (listW w) := by rw [hb, packI_yes hs]
  have hd0 : decA (bytesW w) ((0 : Nat) : Int) = (((listW w).length : Int), ((encV ((listW w).length : Nat)).length : Int), true) := by
    rw [decA_nat, List.drop_zero, hdl]
    exact decV_enc (by omega) (by omega) _
  have hr : rdI (listW w).length ((bytesW w).data.toList.drop (0 + (encV ((listW w).length : Nat)).length)) = some (listW w, (encsL (listW w)).length) := by
    rw [hdl, Nat.zero_add, List.drop_left]
    have := rdI_encs (listW w) [] hs
    rwa [List.append_nil] at this
  have hu := unpI_some hd0 hr
  rw [show ((0 : Nat) : Int) = 0 from rfl] at hu
  have hsz : ((bytesW w).size : Int) = ((encV ((listW w).length : Nat)).length : Int) + (encsL (listW w)).length := by
    have : (bytesW w).size = (bytesW w).data.toList.length := by rw [Array.length_toList]; rfl
    rw [this, hdl, List.length_append]; omega
  have hl1 : (unpI (bytesW w) 0).1 = listW w := by rw [hu]
  have hok : readOk (bytesW w) = true := by
    unfold readOk
    rw [hu, hsz]
    simp only [Bool.and_eq_true, decide_eq_true_eq]
    exact ⟨trivial, trivial, fit_list hn.1 hn.2⟩
  rw [readW_yes hl1 hok (by rw [mk_list]; exact ok_okW h), mk_list]
/-- SameWorld -/
def sameB (a b : Bd) : Bool := decide (a.kind = b.kind) && (decide (a.owner = b.owner) && (decide (a.x = b.x) && (decide (a.y = b.y) && (decide (a.vx = b.vx) && (decide (a.vy = b.vy) && (decide (a.aim = b.aim) && (decide (a.life = b.life) && decide (a.timer = b.timer))))))))
theorem sameB_iff {a b : Bd} : sameB a b = true ↔ a = b := by
  unfold sameB
  simp only [Bool.and_eq_true, decide_eq_true_eq]
  constructor
  · rintro ⟨h0, h1, h2, h3, h4, h5, h6, h7, h8⟩
    exact bd_ext ⟨h0, h1, h2, h3, h4, h5, h6, h7, h8⟩
  · rintro rfl
    simp
instance : DecidableEq Bd := fun a b => if h : sameB a b = true then isTrue (sameB_iff.1 h) else isFalse fun e => h (sameB_iff.2 e)
def sameS (a b : List ByteArray) : Bool := decide (a = b)
def sameBs (a b : List Bd) : Bool := decide (a = b)
def sameW (a b : Wd) : Bool := sameS a.rows b.rows && (decide (a.tick = b.tick) && (decide (a.seed = b.seed) && (decide (a.scores = b.scores) && sameBs a.bodies b.bodies)))
theorem sameW_refl (w : Wd) : sameW w w = true := by
  unfold sameW sameS sameBs; simp
end Go.Proofs.Ytkcknikaidbeoaa
