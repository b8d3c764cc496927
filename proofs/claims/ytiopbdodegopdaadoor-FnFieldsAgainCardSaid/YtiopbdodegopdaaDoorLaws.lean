/- The laws on owned slices at this program's type numbers. -/
import Derived.Test.YtiopbdodegopdaaDoorRows
import Derived.Test.YtiopbdodegopdaaDoorOwn
namespace Go.Proofs.YtiopbdodegopdaaDoor
open Go.RowKit
variable {ops : Array Oper} {rest : List Oper} {o : Oper} {a : Act} {Q : Exit → Act → World → Prop}

/-- '[]byte(s)' -/
theorem bytes_law (w : World) (hgd : o.guard = none) (x : Operand) (ho : o.op = .convert 9 22 x) (base : Nat) (s : ByteArray) (hx : a.eval x = .string s) (hsz : s.size ≤ maxLen) (hbase : base ≤ w.heap.size)
    (hK : ∀ cap w', Own w' base 1 (.slice (some ⟨w.heap.size, 0, none⟩) s.size cap) s.size (u8s s.data.toList) → w.grownBy w' none → wpList Tryd.prog ops Q rest (a.put o.dst (.slice (some ⟨w.heap.size, 0, none⟩) s.size cap)) w') : wpList Tryd.prog ops Q (o :: rest) a w :=
  wpList_bytes_o w hgd x 9 22 ho base 5 s hx Tryd.underlying9 Tryd.underlying22 Tryd.underlying5 hsz hbase hK
/-- 'string(b)' -/
theorem str_law (w : World) (hgd : o.guard = none) (x : Operand) (ho : o.op = .convert 22 9 x) {v : Value} {n : Nat} {l : List UInt8} (h : At w 1 v n (u8s l)) (hx : a.eval x = v)
    (hK : wpList Tryd.prog ops Q rest (a.put o.dst (.string ⟨l.toArray⟩)) w) : wpList Tryd.prog ops Q (o :: rest) a w :=
  wpList_string_o w hgd x 22 9 ho 5 Tryd.underlying22 Tryd.underlying5 Tryd.underlying9 v n l hx h hK

theorem info_u8 : (Tryd.prog.info? 5).map (fun i => (i.zero, i.size, i.bytes)) = some (some (.int .u8 0), 1, 1) := by kernel_rfl
theorem u8s_one (l : List UInt8) : ∀ u ∈ u8s l, u.oneCell' = true := by
  intro u hu
  obtain ⟨_, _, rfl⟩ := List.mem_map.1 hu
  rfl

/-- 'append(out, x)', 'append(out, x, y)' on a []byte: the new elements lie in a block that was just laid. -/
theorem app_u8 (w : World) (C : Array Value) (hgd : o.guard = none) (s x : Operand) (ho : o.op = .call { callee := .builtin .append, args := #[s, x], argTypes := #[22, 22] }) (base : Nat)
    {v : Value} {n : Nat} {l : List UInt8} (hown : Own w base 1 v n (u8s l)) (hv : a.eval s = v) (m c : Nat) (news : List UInt8) (hx : a.eval x = .slice (some ⟨w.heap.size, 0, none⟩) m c) (hC : Hid (C.toList = u8s news)) (hm : m = news.length)
    (hbytes : n + m ≤ 140737488355328) (hbase : base ≤ w.heap.size)
    (hK : ∀ v' w', Own w' base 1 v' (n + m) (u8s (l ++ news)) → w.grownBy w' v.ownBlock → (v'.ownBlock = v.ownBlock ∨ ∃ g, v'.ownBlock = some g ∧ w.heap.size ≤ g) → wpList Tryd.prog ops Q rest (a.put o.dst v') w') :
    wpList Tryd.prog ops Q (o :: rest) a (w.alloc (.cells C 5 (0, 0))) := by
  obtain ⟨i0, hi, hz0, hz1, hz2⟩ := info_parts info_u8
  refine wpList_append_o (P := Tryd.prog) (w.alloc (.cells C 5 (0, 0))) hgd s x 22 22 ho base 5 i0 (.int .u8 0) 1 1 Tryd.underlying22 hi hz0 hz1 hz2 rfl hv (hown.alloc _) _ m (u8s news) hx
    (Src.ofSlice (P := Tryd.prog) _ (size := 1) Tryd.underlying22 ⟨w.heap.size, 0, none⟩ m c (u8s news) (by rw [u8s_len, hm, Nat.mul_one]) (fun j u hu => ?_) (u8s_one news))
    (by unfold maxLen; omega) (by omega) (by simp; omega) (fun v' w' h1 h2 h3 => ?_)
  · rw [Addr.add_lit, Nat.zero_add, World.cell?_alloc_new, ← hu, ← hC.out, Array.getElem?_toList]
  · rw [u8s_append] at h1
    refine hK v' w' h1 (grownBy_trans (World.grownBy_alloc w _ _) h2) ?_
    rcases h3 with h3 | h3
    · exact .inl h3
    · exact .inr ⟨_, h3, by simp⟩
/-- 'append(out, s...)', s a string -/
theorem app_str (w : World) (hgd : o.guard = none) (s x : Operand) (ho : o.op = .call { callee := .builtin .append, args := #[s, x], argTypes := #[22, 9] }) (base : Nat)
    {v : Value} {n : Nat} {l : List UInt8} (hown : Own w base 1 v n (u8s l)) (hv : a.eval s = v) (t : ByteArray) (hx : a.eval x = .string t)
    (hbytes : n + t.size ≤ 140737488355328) (hbase : base ≤ w.heap.size)
    (hK : ∀ v' w', Own w' base 1 v' (n + t.size) (u8s (l ++ t.data.toList)) → w.grownBy w' v.ownBlock → (v'.ownBlock = v.ownBlock ∨ ∃ g, v'.ownBlock = some g ∧ w.heap.size ≤ g) → wpList Tryd.prog ops Q rest (a.put o.dst v') w') :
    wpList Tryd.prog ops Q (o :: rest) a w := by
  obtain ⟨i0, hi, hz0, hz1, hz2⟩ := info_parts info_u8
  refine wpList_append_o (P := Tryd.prog) w hgd s x 22 9 ho base 5 i0 (.int .u8 0) 1 1 Tryd.underlying22 hi hz0 hz1 hz2 rfl hv hown _ t.size (byteCells t) hx
    (Src.ofString (P := Tryd.prog) w Tryd.underlying9 t) (by unfold maxLen; omega) (by omega) (by omega) (fun v' w' h1 h2 h3 => ?_)
  rw [byteCells_u8s, u8s_append] at h1
  refine hK v' w' h1 h2 ?_
  rcases h3 with h3 | h3
  · exact .inl h3
  · exact .inr ⟨_, h3, Nat.le_refl _⟩
/-- 'append(out, b...)', b a []byte -/
theorem app_bytes (w : World) (hgd : o.guard = none) (s x : Operand) (ho : o.op = .call { callee := .builtin .append, args := #[s, x], argTypes := #[22, 22] }) (base : Nat)
    {v : Value} {n : Nat} {l : List UInt8} (hown : Own w base 1 v n (u8s l)) (hv : a.eval s = v) {xv : Value} {m : Nat} {news : List UInt8} (hat : At w 1 xv m (u8s news)) (hx : a.eval x = xv)
    (hbytes : n + m ≤ 140737488355328) (hbase : base ≤ w.heap.size)
    (hK : ∀ v' w', Own w' base 1 v' (n + m) (u8s (l ++ news)) → w.grownBy w' v.ownBlock → (v'.ownBlock = v.ownBlock ∨ ∃ g, v'.ownBlock = some g ∧ w.heap.size ≤ g) → wpList Tryd.prog ops Q rest (a.put o.dst v') w') :
    wpList Tryd.prog ops Q (o :: rest) a w := by
  obtain ⟨i0, hi, hz0, hz1, hz2⟩ := info_parts info_u8
  refine wpList_append_o (P := Tryd.prog) w hgd s x 22 22 ho base 5 i0 (.int .u8 0) 1 1 Tryd.underlying22 hi hz0 hz1 hz2 rfl hv hown _ m _ hx
    (src_at (P := Tryd.prog) Tryd.underlying22 hat (u8s_one _)) (by unfold maxLen; omega) (by omega) (by omega) (fun v' w' h1 h2 h3 => ?_)
  rw [u8s_append] at h1
  refine hK v' w' h1 h2 ?_
  rcases h3 with h3 | h3
  · exact .inl h3
  · exact .inr ⟨_, h3, Nat.le_refl _⟩

/-- 'append(out, x, ..)' on a []byte inside a region that draws its order: the new elements lie in block H -/
theorem step_u8 {K : Act → World → Prop} {E : Prop} {W : World} {H : Nat} {C : Array Value} (hblk : W.heap[H]? = some (.cells C 5 (0, 0))) (base : Nat)
    {v : Value} {n : Nat} {l : List UInt8} (hown : Own W base 1 v n (u8s l)) (news : List UInt8) (hC : Hid (C.toList = u8s news)) (hgd : o.guard = none) (s x : Operand)
    (ho : o.op = .call { callee := .builtin .append, args := #[s, x], argTypes := #[22, 22] }) (hv : a.eval s = v) (m c : Nat) (hx : a.eval x = .slice (some ⟨H, 0, none⟩) m c) (hm : m = news.length)
    (hbytes : n + m ≤ 140737488355328) (hbase : base ≤ W.heap.size)
    (hK : ∀ v' w', Own w' base 1 v' (n + m) (u8s (l ++ news)) → W.grownBy w' v.ownBlock → (v'.ownBlock = v.ownBlock ∨ v'.ownBlock = some W.heap.size) → K (a.put o.dst v') w') :
    if Region.wanted o (yielded ops a.tmps) = true then Oper.wp Tryd.prog o a W K Q else E := by
  obtain ⟨i0, hi, hz0, hz1, hz2⟩ := info_parts info_u8
  refine step_append_o (P := Tryd.prog) W hgd s x 22 22 ho base 5 i0 (.int .u8 0) 1 1 Tryd.underlying22 hi hz0 hz1 hz2 rfl hown hv _ m (u8s news) hx
    (src_blk (P := Tryd.prog) Tryd.underlying22 hblk hC.out (by rw [u8s_len, hm, Nat.mul_one]) (u8s_one _)) (by unfold maxLen; omega) (by omega) hbase (fun v' w' h1 h2 h3 => ?_)
  rw [u8s_append] at h1
  exact hK v' w' h1 h2 h3
/-- 'make([]byte, 0, n)' -/
theorem make0_u8 (w : World) (hgd : o.guard = none) (l c : Operand) (ho : o.op = Op.makeSlice 22 l c) (base n : Nat) (C : Int) (hl : a.eval l = .int .i64 0) (hc : a.eval c = .int .i64 C) (hC : C = (n : Int)) (hn : n ≤ 140737488355328) (hbase : base ≤ w.heap.size)
    (hK : ∀ w', Own w' base 1 (.slice (some ⟨w.heap.size, 0, none⟩) 0 n) 0 (u8s []) → w.grownBy w' none → wpList Tryd.prog ops Q rest (a.put o.dst (.slice (some ⟨w.heap.size, 0, none⟩) 0 n)) w') :
    wpList Tryd.prog ops Q (o :: rest) a w := by
  obtain ⟨i0, hi, hz0, hz1, hz2⟩ := info_parts info_u8
  exact wpList_make_own (P := Tryd.prog) w hgd l c 22 ho base 5 i0 (.int .u8 0) 1 Tryd.underlying22 hi hz0 hz1 .i64 .i64 C n hl hc hC (by rw [hz2]; omega) (by unfold maxLen; omega) hbase (fun w' h1 h2 => hK w' (Own.of_row h1) h2)

/-- '[]byte{x, y, z, t}' -/
theorem lit4 (w : World) (x y z t : Int) (hx : 0 ≤ x ∧ x < 256) (hy : 0 ≤ y ∧ y < 256) (hz : 0 ≤ z ∧ z < 256) (ht : 0 ≤ t ∧ t < 256) :
    At (w.alloc (.cells #[.int .u8 x, .int .u8 y, .int .u8 z, .int .u8 t] 5)) 1 (.slice (some ⟨w.heap.size, 0, none⟩) 4 4) 4 (u8s [b8 x, b8 y, b8 z, b8 t]) := by
  refine (Own.lit (w := w) (C := #[.int .u8 x, .int .u8 y, .int .u8 z, .int .u8 t]) (base := 0) (sz := 1) (n := 4) 5 ?_ rfl (Nat.zero_le _) (by unfold maxLen; omega)).at_
  simp only [u8s, List.map_cons, List.map_nil]
  rw [b8_nat hx.1 hx.2, b8_nat hy.1 hy.2, b8_nat hz.1 hz.2, b8_nat ht.1 ht.2]
end Go.Proofs.YtiopbdodegopdaaDoor
