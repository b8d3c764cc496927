/- Texts Bits, Num, Ck, Frame, Bod, Mee in one. -/
import Derived.WalkKit
import Derived.Deep.Quiet
import Derived.Test.YtiopbdodegopdaaDoorRows
import Derived.WalkSpells
import Derived.WalkLawsBesides
import Derived.Lib.Hide
import Derived.ProofKit
import Derived.OpenShut
import Derived.ShutString
import Derived.Handy
import Derived.Outline
/- Plain facts on bit operations of int and byte values, and on worlds that have drawn. No program. -/
namespace Go.Proofs.YtiopbdodegopdaaDoor

open Go.RowKit
/-- nothing has turned but that something was drawn -/
def Drawn (w w' : World) : Prop := ∃ k, w' = w.drewN k
theorem Drawn.refl (w : World) : Drawn w w := ⟨0, rfl⟩
theorem Drawn.mk (w : World) (k : Nat) : Drawn w (w.drewN k) := ⟨k, rfl⟩
theorem Drawn.one (w : World) : Drawn w w.drew := ⟨1, rfl⟩
theorem Drawn.trans {a b c : World} (h : Drawn a b) (k : Drawn b c) : Drawn a c := by
  obtain ⟨x, rfl⟩ := h
  obtain ⟨y, rfl⟩ := k
  exact ⟨x + y, by simp [World.drewN, Nat.add_assoc]⟩
theorem Drawn.below {w w' : World} (h : Drawn w w') (B : Nat) : Below B w w' := by
  obtain ⟨x, rfl⟩ := h
  exact ⟨rfl, rfl, rfl, Nat.le_refl _, fun _ _ => rfl⟩

theorem wrap_i64_nat (a : Nat) (h : a < 9223372036854775808) : IntKind.i64.wrap (a : Int) = (a : Int) := by
  simp [IntKind.wrap, IntKind.bits, IntKind.signed]; omega
theorem ofInt64_nat (a : Nat) (ha : a < 9223372036854775808) : (BitVec.ofInt 64 (a : Int)).toNat = a := by
  rw [BitVec.ofInt_natCast, BitVec.toNat_ofNat]; exact Nat.mod_eq_of_lt (by omega)
theorem and_i64 (a b : Nat) (ha : a < 9223372036854775808) (hb : b < 9223372036854775808) :
    bits .and .i64 (a : Int) (b : Int) = ((a &&& b : Nat) : Int) := by
  have h1 := ofInt64_nat a ha
  have h2 := ofInt64_nat b hb
  have hx : a &&& b < 9223372036854775808 := Nat.lt_of_le_of_lt Nat.and_le_left ha
  show IntKind.i64.wrap ((BitVec.ofInt 64 (a : Int) &&& BitVec.ofInt 64 (b : Int)).toNat : Int) = _
  rw [BitVec.toNat_and, h1, h2, wrap_i64_nat _ hx]
theorem or_i64 (a b : Nat) (ha : a < 9223372036854775808) (hb : b < 9223372036854775808) :
    bits .or .i64 (a : Int) (b : Int) = ((a ||| b : Nat) : Int) := by
  have h1 := ofInt64_nat a ha
  have h2 := ofInt64_nat b hb
  have hx : a ||| b < 2 ^ 63 := Nat.or_lt_two_pow (by omega) (by omega)
  show IntKind.i64.wrap ((BitVec.ofInt 64 (a : Int) ||| BitVec.ofInt 64 (b : Int)).toNat : Int) = _
  rw [BitVec.toNat_or, h1, h2, wrap_i64_nat _ (by omega)]
theorem and_i64_lit (a : Int) (b : Nat) (h0 : 0 ≤ a) (ha : a < 9223372036854775808) (hb : b < 9223372036854775808) :
    bits .and .i64 a (b : Int) = ((a.toNat &&& b : Nat) : Int) := by
  obtain ⟨n, rfl⟩ := Int.eq_ofNat_of_zero_le h0
  exact and_i64 n b (by omega) hb
/-- m | x << n, m below 2^n -/
theorem or_shift {m x : Int} {n : Nat} (h0 : 0 ≤ m) (hm : m < 2 ^ n) (hx0 : 0 ≤ x) (hb : m + x * 2 ^ n < 9223372036854775808) : bits .or .i64 m (x * 2 ^ n) = m + x * 2 ^ n := by
  obtain ⟨a, rfl⟩ := Int.eq_ofNat_of_zero_le h0
  obtain ⟨b, rfl⟩ := Int.eq_ofNat_of_zero_le hx0
  have e : ((b : Int) * 2 ^ n) = ((b * 2 ^ n : Nat) : Int) := by simp
  have ha : a < 2 ^ n := by
    have : ((a : Nat) : Int) < ((2 ^ n : Nat) : Int) := by simpa using hm
    omega
  rw [e] at hb ⊢
  have h := or_i64 a (b * 2 ^ n) (by omega) (by omega)
  rw [h, Nat.or_comm, Nat.mul_comm, ← Nat.two_pow_add_eq_or_of_lt ha]
  simp
  omega
theorem or_128 (a : Int) (h0 : 0 ≤ a) (ha : a < 128) : bits .or .i64 a 128 = a + 128 := by
  obtain ⟨n, rfl⟩ := Int.eq_ofNat_of_zero_le h0
  have h := or_i64 n 128 (by omega) (by decide)
  have e : n ||| 128 = n + 128 := by
    rw [Nat.or_comm, Nat.add_comm]
    exact (Nat.two_pow_add_eq_or_of_lt (i := 7) (b := n) (by omega) 1).symm
  rw [e] at h
  exact h
/-- n & (2^k - 1) -/
theorem and_mask (a : Int) (k : Nat) (h0 : 0 ≤ a) (ha : a < 9223372036854775808) (hk : 2 ^ k - 1 < 9223372036854775808) :
    bits .and .i64 a ((2 ^ k - 1 : Nat) : Int) = a % ((2 ^ k : Nat) : Int) := by
  rw [and_i64_lit a _ h0 ha hk, Nat.and_two_pow_sub_one_eq_mod]
  obtain ⟨n, rfl⟩ := Int.eq_ofNat_of_zero_le h0
  simp
theorem and_65535 (a : Int) (h0 : 0 ≤ a) (ha : a < 9223372036854775808) : bits .and .i64 a 65535 = a % 65536 :=
  and_mask a 16 h0 ha (by decide)
theorem and_127 (a : Int) (h0 : 0 ≤ a) (ha : a < 9223372036854775808) : bits .and .i64 a 127 = a % 128 :=
  and_mask a 7 h0 ha (by decide)
theorem and_1 (a : Int) (h0 : 0 ≤ a) (ha : a < 9223372036854775808) : bits .and .i64 a 1 = a % 2 :=
  and_mask a 1 h0 ha (by decide)
theorem ofInt8_nat (a : Nat) (ha : a < 256) : (BitVec.ofInt 8 (a : Int)).toNat = a := by
  rw [BitVec.ofInt_natCast, BitVec.toNat_ofNat]; exact Nat.mod_eq_of_lt (by omega)
theorem wrap_u8_nat (a : Nat) (h : a < 256) : IntKind.u8.wrap (a : Int) = (a : Int) := IntWalk.u8_in _ (by omega)
theorem xor_u8 (a b : UInt8) : bits .xor .u8 (a.toNat : Int) (b.toNat : Int) = ((a ^^^ b).toNat : Int) := by
  have h1 := ofInt8_nat a.toNat a.toNat_lt
  have h2 := ofInt8_nat b.toNat b.toNat_lt
  have hx : a.toNat ^^^ b.toNat < 2 ^ 8 := Nat.xor_lt_two_pow a.toNat_lt b.toNat_lt
  show IntKind.u8.wrap ((BitVec.ofInt 8 (a.toNat : Int) ^^^ BitVec.ofInt 8 (b.toNat : Int)).toNat : Int) = _
  rw [BitVec.toNat_xor, h1, h2, wrap_u8_nat _ (by omega), UInt8.toNat_xor]
theorem and_u8 (a b : Nat) (ha : a < 256) (hb : b < 256) : bits .and .u8 (a : Int) (b : Int) = ((a &&& b : Nat) : Int) := by
  have h1 := ofInt8_nat a ha
  have h2 := ofInt8_nat b hb
  have hx : a &&& b < 256 := Nat.lt_of_le_of_lt Nat.and_le_left ha
  show IntKind.u8.wrap ((BitVec.ofInt 8 (a : Int) &&& BitVec.ofInt 8 (b : Int)).toNat : Int) = _
  rw [BitVec.toNat_and, h1, h2, wrap_u8_nat _ hx]
theorem and_u8_127 (a : Nat) (ha : a < 256) : bits .and .u8 (a : Int) 127 = (a : Int) % 128 := by
  rw [show (127 : Int) = ((127 : Nat) : Int) from rfl, and_u8 a 127 ha (by decide), show (127 : Nat) = 2 ^ 7 - 1 from rfl, Nat.and_two_pow_sub_one_eq_mod]
  simp
theorem and_u8_15 (a : Nat) (ha : a < 256) : bits .and .u8 (a : Int) 15 = (a : Int) % 16 := by
  rw [show (15 : Int) = ((15 : Nat) : Int) from rfl, and_u8 a 15 ha (by decide), show (15 : Nat) = 2 ^ 4 - 1 from rfl, Nat.and_two_pow_sub_one_eq_mod]
  simp
end Go.Proofs.YtiopbdodegopdaaDoor
/- Contracts of the small number functions: each program function and its reference return the same plain function of their arguments. -/
namespace Go.Proofs.YtiopbdodegopdaaDoor
open Go.RowKit

theorem ret_int {k : IntKind} {a b : Int} (h : a = b) : Ending.returned (.int k a) = .returned (.int k b) := by rw [h]
theorem ret_bool {a b : Bool} (h : a = b) : Ending.returned (.bool a) = .returned (.bool b) := by rw [h]

def inB (x a b : Int) : Bool := decide (a ≤ x ∧ x ≤ b)
theorem inB_yes {x a b : Int} (h1 : a ≤ x) (h2 : x ≤ b) : inB x a b = true := by simp [inB, h1, h2]
theorem inB_no {x a b : Int} (h : x < a ∨ b < x) : inB x a b = false := by simp [inB]; omega
theorem inB_iff {x a b : Int} : inB x a b = true ↔ a ≤ x ∧ x ≤ b := by simp [inB]

theorem in_any (x a b : Int) (w : World) :
    Calls Tryd.prog 43 #[.int .i64 x, .int .i64 a, .int .i64 b] w fun e w' => e = .returned (.bool (inB x a b)) ∧ w = w' := by
  by_cases h1 : a ≤ x
  · by_cases h2 : x ≤ b
    · have hf := inB_yes h1 h2
      have Hf := Lib.hid hf; clear hf
      go_enter Tryd.func43, Tryd.ntmps43
      go_wp2
      go_ret
      exact ⟨ret_bool (by rw [Hf.out]), rfl⟩
    · have hf := inB_no (x := x) (a := a) (b := b) (by omega)
      have Hf := Lib.hid hf; clear hf
      go_enter Tryd.func43, Tryd.ntmps43
      go_wp2
      go_ret
      exact ⟨ret_bool (by rw [Hf.out]), rfl⟩
  · have hf := inB_no (x := x) (a := a) (b := b) (by omega)
    have Hf := Lib.hid hf; clear hf
    go_enter Tryd.func43, Tryd.ntmps43
    go_wp2
    go_ret
    exact ⟨ret_bool (by rw [Hf.out]), rfl⟩
theorem in_yes (x a b : Int) (w : World) (h1 : a ≤ x) (h2 : x ≤ b) :
    Calls Tryd.prog 43 #[.int .i64 x, .int .i64 a, .int .i64 b] w fun e w' => e = .returned (.bool true) ∧ w = w' :=
  (in_any x a b w).mono fun _ _ ⟨h, hw⟩ => ⟨by rw [h, inB_yes h1 h2], hw⟩
theorem in_no (x a b : Int) (w : World) (h : x < a ∨ b < x) :
    Calls Tryd.prog 43 #[.int .i64 x, .int .i64 a, .int .i64 b] w fun e w' => e = .returned (.bool false) ∧ w = w' :=
  (in_any x a b w).mono fun _ _ ⟨he, hw⟩ => ⟨by rw [he, inB_no h], hw⟩

/-! NextRandom -/
def nextR (s : Int) : Int := if s < 0 ∨ 65535 < s then 0 else (s * 25173 + 13849) % 65536
theorem nextR_out {s : Int} (h : s < 0 ∨ 65535 < s) : nextR s = 0 := if_pos h
theorem nextR_in {s : Int} (h1 : 0 ≤ s) (h2 : s ≤ 65535) : nextR s = (s * 25173 + 13849) % 65536 := if_neg (by omega)
theorem nextR_bd (s : Int) : 0 ≤ nextR s ∧ nextR s ≤ 65535 := by unfold nextR; split <;> omega

/-! Signless -/
def signless (n : Int) : Int := if n < -549755813888 ∨ 549755813887 < n then -1 else if 0 ≤ n then 2 * n else -2 * n - 1
theorem signless_out {n : Int} (h : n < -549755813888 ∨ 549755813887 < n) : signless n = -1 := if_pos h
theorem signless_pos {n : Int} (h1 : 0 ≤ n) (h2 : n ≤ 549755813887) : signless n = 2 * n := by
  unfold signless; rw [if_neg (by omega), if_pos h1]
theorem signless_neg {n : Int} (h1 : n < 0) (h2 : -549755813888 ≤ n) : signless n = -2 * n - 1 := by
  unfold signless; rw [if_neg (by omega), if_neg (by omega)]
theorem signless_bd (n : Int) : -1 ≤ signless n ∧ signless n ≤ 1099511627775 := by
  unfold signless; split
  · omega
  · split <;> omega

/-! Signed -/
def signed (n : Int) : Int := if n < 0 ∨ 1099511627775 < n then 0 else if n % 2 = 0 then n / 2 else -((n + 1) / 2)
theorem signed_out {n : Int} (h : n < 0 ∨ 1099511627775 < n) : signed n = 0 := if_pos h
theorem signed_even {n : Int} (h1 : 0 ≤ n) (h2 : n ≤ 1099511627775) (h : n % 2 = 0) : signed n = n / 2 := by
  unfold signed; rw [if_neg (by omega), if_pos h]
theorem signed_odd {n : Int} (h1 : 0 ≤ n) (h2 : n ≤ 1099511627775) (h : n % 2 = 1) : signed n = -((n + 1) / 2) := by
  unfold signed; rw [if_neg (by omega), if_neg (by omega)]
theorem signed_bd (n : Int) : -549755813888 ≤ signed n ∧ signed n ≤ 549755813887 := by
  unfold signed; split
  · omega
  · split <;> omega

theorem neg_half (n : Int) (h1 : 0 ≤ n) (h2 : n ≤ 1099511627775) : wrap64 (-(n + 1).tdiv 2) = -((n + 1) / 2) := by
  rw [Int.tdiv_eq_ediv_of_nonneg (by omega)]; exact IntWalk.wrap64_in _ (by omega)

end Go.Proofs.YtiopbdodegopdaaDoor
/- Checksum: the program's and the reference's return the same plain function of the string. -/
namespace Go.Proofs.YtiopbdodegopdaaDoor
open Go.RowKit

theorem mul_bd {a b A B : Int} (h1 : 0 ≤ a) (h2 : a ≤ A) (h3 : 0 ≤ b) (h4 : b ≤ B) : 0 ≤ a * b ∧ a * b ≤ A * B :=
  ⟨Int.mul_nonneg h1 h3, Int.mul_le_mul h2 h4 h3 (by omega)⟩
/-- a string's byte at an index; 0 behind its end -/
def byteAt (s : ByteArray) (k : Nat) : Int := if h : k < s.size then ((s[k]'h).toNat : Int) else 0
theorem byteAt_eq {s : ByteArray} {k : Nat} (h : k < s.size) : byteAt s k = ((s[k]'h).toNat : Int) := dif_pos h
theorem byteAt_bd (s : ByteArray) (k : Nat) : 0 ≤ byteAt s k ∧ byteAt s k ≤ 255 := by
  unfold byteAt; split
  · rename_i h; have := (s[k]'h).toNat_lt; omega
  · omega
def ckA (s : ByteArray) : Nat → Int
  | 0 => 0
  | k + 1 => (ckA s k + byteAt s k) % 65521
def ckB (s : ByteArray) : Nat → Int
  | 0 => 0
  | k + 1 => (ckB s k + byteAt s k * (((k : Int) + 1) % 65521)) % 65521
theorem ckA_bd (s : ByteArray) (k : Nat) : 0 ≤ ckA s k ∧ ckA s k ≤ 65520 := by
  cases k <;> simp only [ckA] <;> omega
theorem ckB_bd (s : ByteArray) (k : Nat) : 0 ≤ ckB s k ∧ ckB s k ≤ 65520 := by
  cases k <;> simp only [ckB] <;> omega
def cksum (s : ByteArray) : Int := ckA s s.size + 65536 * ckB s s.size
theorem cksum_bd (s : ByteArray) : 0 ≤ cksum s ∧ cksum s ≤ 4293984240 := by
  have := ckA_bd s s.size
  have := ckB_bd s s.size
  unfold cksum; omega

end Go.Proofs.YtiopbdodegopdaaDoor
/- What every law's proof ends in: below the old heap nothing has turned, so each argument reads as it did, and the one result is true. -/
namespace Go.Proofs.YtiopbdodegopdaaDoor
open Go.ChangeShapes Go.WideShapes Go.ChangeAt Go.RowKit

theorem trodAll_stays {H : Type} {enc : TypeId × Value → H} {P : Program} (hl : laidOutB P = true) {W W' : World} (hb : Below W.heap.size W W') :
    ∀ (ts : List TypeId) (vs : List Value) (ds : List (DataW H)) (ps : List MemPlace), (∀ t ∈ ts, P.readableRec t = true ∧ t < P.types.size) → (∀ x ∈ ps, x.block < W.heap.size) →
      DataW.TrodAll enc P W 0 (fun _ => true) true ts vs ds ps → DataW.TrodAll enc P W' 0 (fun b => decide (b < W.heap.size)) true ts vs ds ps
  | [], [], [], ps, _, _, h => h
  | t :: ts, v :: vs, d :: ds, ps, ht, hlt, h => by
    obtain ⟨p, q, h1, h2, rfl⟩ := h
    refine ⟨p, q, Below.trod hl (ht t (List.mem_cons_self ..)).1 (ht t (List.mem_cons_self ..)).2 h1 hb (fun x hx => hlt x (List.mem_append_left _ hx)), ?_, rfl⟩
    exact trodAll_stays hl hb ts vs ds q (fun t' ht' => ht t' (List.mem_cons_of_mem _ ht')) (fun x hx => hlt x (List.mem_append_right _ hx)) h2
  | [], [], _ :: _, _, _, _, h => by simp [DataW.TrodAll] at h
  | [], _ :: _, _, _, _, _, h => by simp [DataW.TrodAll] at h
  | _ :: _, [], _, _, _, _, h => by simp [DataW.TrodAll] at h
  | _ :: _, _ :: _, [], _, _, _, h => by simp [DataW.TrodAll] at h

theorem law_post {H : Type} {enc : TypeId × Value → H} {P : Program} {f : Func} {s : ChangeSpec} {T : TypeId} {W W' : World} {args : Array Value} {ds gs : List (DataW H)} {before : List MemPlace}
    (hl : laidOutB P = true) (hp : f.params.toList.all (fun t => P.readableRec t && decide (t < P.types.size)) = true) (hv : s.vars = []) (hrt : f.resultTypes = #[T]) (hT : P.underlying T = some .bool)
    (hres : ∀ gs' : List (DataW H), gs' = [] → s.fn H (ds ++ gs') = { results := [.lit (.bool true)], args := ds })
    (hW : DataW.Whole enc P f.params.toList s.vars false W args.toList ds gs before) (hb : Below W.heap.size W W') : s.post enc P f false true false false W args (.bool true) W' := by
  have hlt : ∀ x ∈ before, x.block < W.heap.size := fun x hx => by simpa using hW.lt x hx
  have hW' := hW
  obtain ⟨p, q, hA, hV, rfl, hfz, hnd⟩ := hW
  rw [hv] at hV
  obtain ⟨rfl, rfl⟩ := trodVars_none hV
  have hr := hres [] rfl
  refine ⟨ds, [], p ++ [], [], p, [], hW', ?_, ?_, ?_, hb.frame _, fun h => by cases h⟩
  · rw [hr, hrt]
    exact trodAll_mk1 (shut_bool hT true)
  · rw [hr]
    exact trodAll_stays hl hb _ _ _ _ (fun t ht => by have := List.all_eq_true.1 hp t ht; simpa using this) (fun x hx => hlt x (List.mem_append_left _ hx)) hA
  · rw [hr, hv]
    rfl
theorem laidOut : laidOutB Tryd.prog = true := by kernel_rfl
theorem own_ : ownKnob Tryd.prog.godebug = none := by kernel_rfl
end Go.Proofs.YtiopbdodegopdaaDoor
/- A body as an argument: nine whole numbers; its copy, its comparison. -/
namespace Go.Proofs.YtiopbdodegopdaaDoor
open Go.RowKit

def bod (k0 k1 k2 k3 k4 k5 k6 k7 k8 : Int) : Value := .agg #[.int .i64 k0, .int .i64 k1, .int .i64 k2, .int .i64 k3, .int .i64 k4, .int .i64 k5, .int .i64 k6, .int .i64 k7, .int .i64 k8]
def Arg_body (_ : World) (v : Value) : Prop := ∃ k0 k1 k2 k3 k4 k5 k6 k7 k8 : Int, v = bod k0 k1 k2 k3 k4 k5 k6 k7 k8
theorem cell_int {P : Program} {w : World} {r : Reach} {base : Nat} {t : TypeId} {k : IntKind} {v : Value} (ht : P.underlying t = some (.int k)) (h : Cell.okWide P w r base t v) : ∃ n, v = .int k n := by
  simp only [ht, Cell.okWide] at h
  cases v <;> simp_all [Cell.ok]
end Go.Proofs.YtiopbdodegopdaaDoor
/- BodiesMeet. -/
namespace Go.Proofs.YtiopbdodegopdaaDoor
open Go.RowKit

def szOf (k : Int) : Int := if k = 0 then 12 else if k = 1 then 4 else if k = 2 then 8 else 0
theorem szOf_bd (k : Int) : 0 ≤ szOf k ∧ szOf k ≤ 12 := by unfold szOf; split <;> (try split) <;> (try split) <;> omega
theorem sz_cases (k : Int) : (k = 0) ∨ (k ≠ 0 ∧ k = 1) ∨ (k ≠ 0 ∧ k ≠ 1 ∧ k = 2) ∨ (k ≠ 0 ∧ k ≠ 1 ∧ k ≠ 2) := by omega
theorem sz_impl (k : Int) (w : World) : Calls Tryd.prog 22 #[.int .i64 k] w fun e w' => e = .returned (.int .i64 (szOf k)) ∧ w = w' := by
  have HS : Hid (szOf k = if k = 0 then 12 else if k = 1 then 4 else if k = 2 then 8 else 0) := Lib.hid rfl
  rcases sz_cases k with rfl | ⟨_, rfl⟩ | ⟨_, _, rfl⟩ | ⟨h1, h2, h3⟩
  all_goals
    go_enter Tryd.func22, Tryd.ntmps22
    go_wp2
    all_goals first
      | (exfalso; simp_all; done)
      | (go_ret; exact ⟨ret_int (by rw [HS.out]; first | rfl | (rw [if_neg h1, if_neg h2, if_neg h3])), rfl⟩)
theorem sz_spec (k : Int) (w : World) : Calls Tryd.prog 72 #[.int .i64 k] w fun e w' => e = .returned (.int .i64 (szOf k)) ∧ w = w' := by
  have HS : Hid (szOf k = if k = 0 then 12 else if k = 1 then 4 else if k = 2 then 8 else 0) := Lib.hid rfl
  rcases sz_cases k with rfl | ⟨_, rfl⟩ | ⟨_, _, rfl⟩ | ⟨h1, h2, h3⟩
  all_goals
    go_enter Tryd.func72, Tryd.ntmps72
    go_wp2
    all_goals first
      | (exfalso; simp_all; done)
      | (go_ret; exact ⟨ret_int (by rw [HS.out]; first | rfl | (rw [if_neg h1, if_neg h2, if_neg h3])), rfl⟩)

def inR (x : Int) : Prop := 0 ≤ x ∧ x ≤ 1000
instance (x : Int) : Decidable (inR x) := by unfold inR; infer_instance
def meetT (ka xa ya kb xb yb : Int) : Bool := decide (szOf ka ≠ 0 ∧ szOf kb ≠ 0 ∧ inR xa ∧ inR ya ∧ inR xb ∧ inR yb ∧ xa < xb + szOf kb ∧ xb < xa + szOf ka ∧ ya < yb + szOf kb ∧ yb < ya + szOf ka)
theorem meet_no {ka xa ya kb xb yb : Int} (h : szOf ka = 0 ∨ szOf kb = 0 ∨ ¬ inR xa ∨ ¬ inR ya ∨ ¬ inR xb ∨ ¬ inR yb) : meetT ka xa ya kb xb yb = false := by
  unfold meetT
  rw [decide_eq_false_iff_not]
  rintro ⟨h1, h2, h3, h4, h5, h6, _⟩
  rcases h with h | h | h | h | h | h
  · exact h1 h
  · exact h2 h
  · exact h h3
  · exact h h4
  · exact h h5
  · exact h h6
theorem meet_in {ka xa ya kb xb yb : Int} (h1 : szOf ka ≠ 0) (h2 : szOf kb ≠ 0) (h3 : inR xa) (h4 : inR ya) (h5 : inR xb) (h6 : inR yb) : meetT ka xa ya kb xb yb = (decide (xa < xb + szOf kb) && (decide (xb < xa + szOf ka) && (decide (ya < yb + szOf kb) && decide (yb < ya + szOf ka)))) := by
  unfold meetT
  simp only [h3, h4, h5, h6, ne_eq, h1, h2, not_false_eq_true, true_and, Bool.decide_and]
theorem notR {x : Int} (h : ¬ inR x) : x < 0 ∨ (0 ≤ x ∧ 1000 < x) := by unfold inR at h; omega

end Go.Proofs.YtiopbdodegopdaaDoor
