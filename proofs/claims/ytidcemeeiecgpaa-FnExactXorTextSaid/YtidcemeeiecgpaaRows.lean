/-
  No cell of these rows narrows 'for every input' (looked for: loops, veiled, ifaces, maps, wideKeys, modest, calm, conditions, laid).
  DERIVED. THE GIVEN ROWS OF THIS SEAT. 7 by the template 'for every input the law returns true; each argument reads behind the call as it read before'; 0 by the template 'total and deterministic' (their statements: YtidcemeeiecgpaaTotals.lean).
  GIVEN WITH THE SEED: the statements are not yours to turn. If you find one false, say at which input.
  Laid BY PROGRAM, IN A SANDBOX (cutbox-rows.mjs): the forced cells as the released guide's own fill.sh prints them over the translation 031cc4b3718ba8e0… (all of the seat's roots in one cut). By AI agents, Wed Nov 11 2026. No macro, syntax, notation, axiom, sorry.
-/
import Derived.Test.YtidcemeeiecgpaaChecked
import GoSem.Claim
import GoSem.ClaimJoined
import GoSem.ClaimMapViews
import Derived.JoinedTies
import Derived.KernelRfl
namespace Go.Proofs.Ytidcemeeiecgpaa
/- THE CELL 'sum', in the pinned program and in every row, IS THE sha256 OF THE DUMP (.gsa) THAT YtidcemeeiecgpaaProg.lean LOADS. Nothing in Lean hashes anything: it is a label: what it is worth is what the hold of that sum in a sandbox is worth. -/
noncomputable def Try.pinned : Pinned := { name := "ytidcemeeiecgpaa", sum := "031cc4b3718ba8e0b5c15d4445ecabd7e43ddcc06f5a1e7a9b9ff0e9eee1a073", checked := Try.checked }
namespace Rows
def none {H : Type} : Left H := { results := [], args := [] }

/-- 'laws.FnExactConstants': WHATEVER THE INPUT: true; the input reads as it did. -/
def fnExactConstantsSpec : ChangeSpec := { name := "fnExactConstants", fn := fun _ => fun
  | [] => { results := [.lit (.bool true)], args := [] }
  | _ => none }
def fnExactConstantsRow : OpenClaim := { program := "ytidcemeeiecgpaa", sum := "031cc4b3718ba8e0b5c15d4445ecabd7e43ddcc06f5a1e7a9b9ff0e9eee1a073", func := "loop.example/g03315/laws.FnExactConstants", spec := "fnExactConstants", apart := false }
def FnExactConstantsSaid : Prop := fnExactConstantsRow.holds Try.pinned (OpenSpec.ofChange fnExactConstantsSpec)

/-- ITS FALSE NEIGHBOUR: 'it returns false'. Refute it at one input. -/
def fnExactConstantsWrong : ChangeSpec := { name := "fnExactConstants", fn := fun _ => fun
  | [] => { results := [.lit (.bool false)], args := [] }
  | _ => none }
def FnExactConstantsWrongFalsely : Prop := fnExactConstantsRow.holds Try.pinned (OpenSpec.ofChange fnExactConstantsWrong)

/-- 'laws.FnExactNextRandom': WHATEVER THE INPUT: true; the input reads as it did. -/
def fnExactNextRandomSpec : ChangeSpec := { name := "fnExactNextRandom", fn := fun _ => fun
  | [d] => { results := [.lit (.bool true)], args := [d] }
  | _ => none }
def fnExactNextRandomRow : OpenClaim := { program := "ytidcemeeiecgpaa", sum := "031cc4b3718ba8e0b5c15d4445ecabd7e43ddcc06f5a1e7a9b9ff0e9eee1a073", func := "loop.example/g03315/laws.FnExactNextRandom", spec := "fnExactNextRandom", apart := false }
def FnExactNextRandomSaid : Prop := fnExactNextRandomRow.holds Try.pinned (OpenSpec.ofChange fnExactNextRandomSpec)

/-- ITS FALSE NEIGHBOUR: 'it returns false'. Refute it at one input. -/
def fnExactNextRandomWrong : ChangeSpec := { name := "fnExactNextRandom", fn := fun _ => fun
  | [d] => { results := [.lit (.bool false)], args := [d] }
  | _ => none }
def FnExactNextRandomWrongFalsely : Prop := fnExactNextRandomRow.holds Try.pinned (OpenSpec.ofChange fnExactNextRandomWrong)

/-- 'laws.FnExactXorText': WHATEVER THE INPUT: true; the input reads as it did. -/
def fnExactXorTextSpec : ChangeSpec := { name := "fnExactXorText", fn := fun _ => fun
  | [d1, d2] => { results := [.lit (.bool true)], args := [d1, d2] }
  | _ => none }
def fnExactXorTextRow : OpenClaim := { program := "ytidcemeeiecgpaa", sum := "031cc4b3718ba8e0b5c15d4445ecabd7e43ddcc06f5a1e7a9b9ff0e9eee1a073", func := "loop.example/g03315/laws.FnExactXorText", spec := "fnExactXorText", apart := false }
def FnExactXorTextSaid : Prop := fnExactXorTextRow.holds Try.pinned (OpenSpec.ofChange fnExactXorTextSpec)

/-- ITS FALSE NEIGHBOUR: 'it returns false'. Refute it at one input. -/
def fnExactXorTextWrong : ChangeSpec := { name := "fnExactXorText", fn := fun _ => fun
  | [d1, d2] => { results := [.lit (.bool false)], args := [d1, d2] }
  | _ => none }
def FnExactXorTextWrongFalsely : Prop := fnExactXorTextRow.holds Try.pinned (OpenSpec.ofChange fnExactXorTextWrong)

/-- 'laws.FnExactChecksum': WHATEVER THE INPUT: true; the input reads as it did. -/
def fnExactChecksumSpec : ChangeSpec := { name := "fnExactChecksum", fn := fun _ => fun
  | [d] => { results := [.lit (.bool true)], args := [d] }
  | _ => none }
def fnExactChecksumRow : OpenClaim := { program := "ytidcemeeiecgpaa", sum := "031cc4b3718ba8e0b5c15d4445ecabd7e43ddcc06f5a1e7a9b9ff0e9eee1a073", func := "loop.example/g03315/laws.FnExactChecksum", spec := "fnExactChecksum", apart := false }
def FnExactChecksumSaid : Prop := fnExactChecksumRow.holds Try.pinned (OpenSpec.ofChange fnExactChecksumSpec)

/-- ITS FALSE NEIGHBOUR: 'it returns false'. Refute it at one input. -/
def fnExactChecksumWrong : ChangeSpec := { name := "fnExactChecksum", fn := fun _ => fun
  | [d] => { results := [.lit (.bool false)], args := [d] }
  | _ => none }
def FnExactChecksumWrongFalsely : Prop := fnExactChecksumRow.holds Try.pinned (OpenSpec.ofChange fnExactChecksumWrong)

/-- 'laws.FnExactClamp': WHATEVER THE INPUT: true; the input reads as it did. -/
def fnExactClampSpec : ChangeSpec := { name := "fnExactClamp", fn := fun _ => fun
  | [d1, d2, d3] => { results := [.lit (.bool true)], args := [d1, d2, d3] }
  | _ => none }
def fnExactClampRow : OpenClaim := { program := "ytidcemeeiecgpaa", sum := "031cc4b3718ba8e0b5c15d4445ecabd7e43ddcc06f5a1e7a9b9ff0e9eee1a073", func := "loop.example/g03315/laws.FnExactClamp", spec := "fnExactClamp", apart := false }
def FnExactClampSaid : Prop := fnExactClampRow.holds Try.pinned (OpenSpec.ofChange fnExactClampSpec)

/-- ITS FALSE NEIGHBOUR: 'it returns false'. Refute it at one input. -/
def fnExactClampWrong : ChangeSpec := { name := "fnExactClamp", fn := fun _ => fun
  | [d1, d2, d3] => { results := [.lit (.bool false)], args := [d1, d2, d3] }
  | _ => none }
def FnExactClampWrongFalsely : Prop := fnExactClampRow.holds Try.pinned (OpenSpec.ofChange fnExactClampWrong)

/-- 'laws.FnExactSigned': WHATEVER THE INPUT: true; the input reads as it did. -/
def fnExactSignedSpec : ChangeSpec := { name := "fnExactSigned", fn := fun _ => fun
  | [d] => { results := [.lit (.bool true)], args := [d] }
  | _ => none }
def fnExactSignedRow : OpenClaim := { program := "ytidcemeeiecgpaa", sum := "031cc4b3718ba8e0b5c15d4445ecabd7e43ddcc06f5a1e7a9b9ff0e9eee1a073", func := "loop.example/g03315/laws.FnExactSigned", spec := "fnExactSigned", apart := false }
def FnExactSignedSaid : Prop := fnExactSignedRow.holds Try.pinned (OpenSpec.ofChange fnExactSignedSpec)

/-- ITS FALSE NEIGHBOUR: 'it returns false'. Refute it at one input. -/
def fnExactSignedWrong : ChangeSpec := { name := "fnExactSigned", fn := fun _ => fun
  | [d] => { results := [.lit (.bool false)], args := [d] }
  | _ => none }
def FnExactSignedWrongFalsely : Prop := fnExactSignedRow.holds Try.pinned (OpenSpec.ofChange fnExactSignedWrong)

/-- 'laws.FnExactSignless': WHATEVER THE INPUT: true; the input reads as it did. -/
def fnExactSignlessSpec : ChangeSpec := { name := "fnExactSignless", fn := fun _ => fun
  | [d] => { results := [.lit (.bool true)], args := [d] }
  | _ => none }
def fnExactSignlessRow : OpenClaim := { program := "ytidcemeeiecgpaa", sum := "031cc4b3718ba8e0b5c15d4445ecabd7e43ddcc06f5a1e7a9b9ff0e9eee1a073", func := "loop.example/g03315/laws.FnExactSignless", spec := "fnExactSignless", apart := false }
def FnExactSignlessSaid : Prop := fnExactSignlessRow.holds Try.pinned (OpenSpec.ofChange fnExactSignlessSpec)

/-- ITS FALSE NEIGHBOUR: 'it returns false'. Refute it at one input. -/
def fnExactSignlessWrong : ChangeSpec := { name := "fnExactSignless", fn := fun _ => fun
  | [d] => { results := [.lit (.bool false)], args := [d] }
  | _ => none }
def FnExactSignlessWrongFalsely : Prop := fnExactSignlessRow.holds Try.pinned (OpenSpec.ofChange fnExactSignlessWrong)

/- THE SECOND FORM. 'bulk': how many values and letters a reading holds, each counted each time it is reached (what is shared counts as often as it is met; a slice's spare places count too). A statement '..UptoSaid' is the law's where the arguments, and the package variables that the reading takes, are together of bulk at most 1048576: NARROWER than '..Said'. Prove '..Said' where nothing that the law and all that it calls make is longer than what came in: it says more and counts as full. Else prove '..UptoSaid'. A law counts once. -/
mutual
def uptoBulk {H : Type} : DataW H → Nat
  | .lit (.string bytes) => bytes.length + 1
  | .lit _ => 1
  | .nil => 1
  | .ptr d => uptoBulk d + 1
  | .slice elems spare => uptoBulkAll elems + uptoBulkAll spare + 1
  | .agg parts => uptoBulkAll parts + 1
  | .iface _ d => uptoBulk d + 1
  | .map entries => uptoBulkEntries entries + 1
  | .held _ => 1
def uptoBulkAll {H : Type} : List (DataW H) → Nat
  | [] => 0
  | d :: r => uptoBulk d + uptoBulkAll r
def uptoBulkEntries {H : Type} : List (Lit × DataW H) → Nat
  | [] => 0
  | x :: r => uptoBulkEntry x + uptoBulkEntries r
def uptoBulkEntry {H : Type} : Lit × DataW H → Nat
  | (.string bytes, d) => bytes.length + uptoBulk d + 1
  | (_, d) => uptoBulk d + 1
 end
def uptoSmall : (H : Type) → List (DataW H) → Bool := fun _ ds => decide (uptoBulkAll ds ≤ 1048576)
def OpenSpec.upto (s : _root_.Go.ChangeSpec) : _root_.Go.OpenSpec := { _root_.Go.OpenSpec.ofChange s with cond := some uptoSmall }

/-- 'laws.FnExactConstants', WHERE WHAT IT READS IS OF BULK AT MOST 1048576: true; the input reads as it did. -/
def fnExactConstantsUptoRow : OpenClaim := { program := "ytidcemeeiecgpaa", sum := "031cc4b3718ba8e0b5c15d4445ecabd7e43ddcc06f5a1e7a9b9ff0e9eee1a073", func := "loop.example/g03315/laws.FnExactConstants", spec := "fnExactConstants", apart := false, narrowed := true }
def FnExactConstantsUptoSaid : Prop := fnExactConstantsUptoRow.holds Try.pinned (OpenSpec.upto fnExactConstantsSpec)

/-- 'laws.FnExactNextRandom', WHERE WHAT IT READS IS OF BULK AT MOST 1048576: true; the input reads as it did. -/
def fnExactNextRandomUptoRow : OpenClaim := { program := "ytidcemeeiecgpaa", sum := "031cc4b3718ba8e0b5c15d4445ecabd7e43ddcc06f5a1e7a9b9ff0e9eee1a073", func := "loop.example/g03315/laws.FnExactNextRandom", spec := "fnExactNextRandom", apart := false, narrowed := true }
def FnExactNextRandomUptoSaid : Prop := fnExactNextRandomUptoRow.holds Try.pinned (OpenSpec.upto fnExactNextRandomSpec)

/-- 'laws.FnExactXorText', WHERE WHAT IT READS IS OF BULK AT MOST 1048576: true; the input reads as it did. -/
def fnExactXorTextUptoRow : OpenClaim := { program := "ytidcemeeiecgpaa", sum := "031cc4b3718ba8e0b5c15d4445ecabd7e43ddcc06f5a1e7a9b9ff0e9eee1a073", func := "loop.example/g03315/laws.FnExactXorText", spec := "fnExactXorText", apart := false, narrowed := true }
def FnExactXorTextUptoSaid : Prop := fnExactXorTextUptoRow.holds Try.pinned (OpenSpec.upto fnExactXorTextSpec)

/-- 'laws.FnExactChecksum', WHERE WHAT IT READS IS OF BULK AT MOST 1048576: true; the input reads as it did. -/
def fnExactChecksumUptoRow : OpenClaim := { program := "ytidcemeeiecgpaa", sum := "031cc4b3718ba8e0b5c15d4445ecabd7e43ddcc06f5a1e7a9b9ff0e9eee1a073", func := "loop.example/g03315/laws.FnExactChecksum", spec := "fnExactChecksum", apart := false, narrowed := true }
def FnExactChecksumUptoSaid : Prop := fnExactChecksumUptoRow.holds Try.pinned (OpenSpec.upto fnExactChecksumSpec)

/-- 'laws.FnExactClamp', WHERE WHAT IT READS IS OF BULK AT MOST 1048576: true; the input reads as it did. -/
def fnExactClampUptoRow : OpenClaim := { program := "ytidcemeeiecgpaa", sum := "031cc4b3718ba8e0b5c15d4445ecabd7e43ddcc06f5a1e7a9b9ff0e9eee1a073", func := "loop.example/g03315/laws.FnExactClamp", spec := "fnExactClamp", apart := false, narrowed := true }
def FnExactClampUptoSaid : Prop := fnExactClampUptoRow.holds Try.pinned (OpenSpec.upto fnExactClampSpec)

/-- 'laws.FnExactSigned', WHERE WHAT IT READS IS OF BULK AT MOST 1048576: true; the input reads as it did. -/
def fnExactSignedUptoRow : OpenClaim := { program := "ytidcemeeiecgpaa", sum := "031cc4b3718ba8e0b5c15d4445ecabd7e43ddcc06f5a1e7a9b9ff0e9eee1a073", func := "loop.example/g03315/laws.FnExactSigned", spec := "fnExactSigned", apart := false, narrowed := true }
def FnExactSignedUptoSaid : Prop := fnExactSignedUptoRow.holds Try.pinned (OpenSpec.upto fnExactSignedSpec)

/-- 'laws.FnExactSignless', WHERE WHAT IT READS IS OF BULK AT MOST 1048576: true; the input reads as it did. -/
def fnExactSignlessUptoRow : OpenClaim := { program := "ytidcemeeiecgpaa", sum := "031cc4b3718ba8e0b5c15d4445ecabd7e43ddcc06f5a1e7a9b9ff0e9eee1a073", func := "loop.example/g03315/laws.FnExactSignless", spec := "fnExactSignless", apart := false, narrowed := true }
def FnExactSignlessUptoSaid : Prop := fnExactSignlessUptoRow.holds Try.pinned (OpenSpec.upto fnExactSignlessSpec)

end Rows
end Go.Proofs.Ytidcemeeiecgpaa
