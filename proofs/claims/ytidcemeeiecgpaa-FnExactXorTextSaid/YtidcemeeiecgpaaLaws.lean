/- The laws on owned slices at this program's type numbers. -/
import Derived.Test.YtidcemeeiecgpaaRows
import Derived.Test.YtidcemeeiecgpaaOwn
namespace Go.Proofs.Ytidcemeeiecgpaa
open Go.RowKit
variable {ops : Array Oper} {rest : List Oper} {o : Oper} {a : Act} {Q : Exit → Act → World → Prop}

/-- '[]byte(s)' -/
theorem bytes_law (w : World) (hgd : o.guard = none) (x : Operand) (ho : o.op = .convert 9 31 x) (base : Nat) (s : ByteArray) (hx : a.eval x = .string s) (hsz : s.size ≤ maxLen) (hbase : base ≤ w.heap.size)
    (hK : ∀ cap w', Own w' base 1 (.slice (some ⟨w.heap.size, 0, none⟩) s.size cap) s.size (u8s s.data.toList) → w.grownBy w' none → wpList Try.prog ops Q rest (a.put o.dst (.slice (some ⟨w.heap.size, 0, none⟩) s.size cap)) w') : wpList Try.prog ops Q (o :: rest) a w :=
  wpList_bytes_o w hgd x 9 31 ho base 5 s hx Try.underlying9 Try.underlying31 Try.underlying5 hsz hbase hK
/-- 'string(b)' -/
theorem str_law (w : World) (hgd : o.guard = none) (x : Operand) (ho : o.op = .convert 31 9 x) (v : Value) (n : Nat) (l : List UInt8) (hx : a.eval x = v) (h : At w 1 v n (u8s l))
    (hK : wpList Try.prog ops Q rest (a.put o.dst (.string ⟨l.toArray⟩)) w) : wpList Try.prog ops Q (o :: rest) a w :=
  wpList_string_o w hgd x 31 9 ho 5 Try.underlying31 Try.underlying5 Try.underlying9 v n l hx h hK

theorem info_u8 : (Try.prog.info? 5).map (fun i => (i.zero, i.size, i.bytes)) = some (some (.int .u8 0), 1, 1) := by kernel_rfl
end Go.Proofs.Ytidcemeeiecgpaa
