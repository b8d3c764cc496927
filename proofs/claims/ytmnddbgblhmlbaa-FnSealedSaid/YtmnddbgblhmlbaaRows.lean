/-
  No cell of these rows narrows 'for every input' (looked for: loops, veiled, ifaces, maps, wideKeys, modest, calm, conditions, laid).
  DERIVED. THE GIVEN ROWS OF THIS SEAT. 13 by the template 'for every input the law returns true; each argument reads behind the call as it read before'; 0 by the template 'total and deterministic' (their statements: YtmnddbgblhmlbaaTotals.lean).
  GIVEN WITH THE SEED: the statements are not yours to turn. If you find one false, say at which input.
  Laid BY PROGRAM, IN A SANDBOX (cutbox-rows.mjs): the forced cells as the released guide's own fill.sh prints them over the translation 9b3779f838fec18f… (all of the seat's roots in one cut). By AI agents, Wed Nov 11 2026. No macro, syntax, notation, axiom, sorry.
-/
import Derived.Test.YtmnddbgblhmlbaaChecked
import GoSem.Claim
import GoSem.ClaimJoined
import GoSem.ClaimMapViews
import Derived.JoinedTies
import Derived.KernelRfl
namespace Go.Proofs.Ytmnddbgblhmlbaa
/- THE CELL 'sum', in the pinned program and in every row, IS THE sha256 OF THE DUMP (.gsa) THAT YtmnddbgblhmlbaaProg.lean LOADS. Nothing in Lean hashes anything: it is a label: what it is worth is what the hold of that sum in a sandbox is worth. -/
noncomputable def Try.pinned : Pinned := { name := "ytmnddbgblhmlbaa", sum := "9b3779f838fec18f62a561ec5595717d68e4fd0727efaa18cbb4bbcb4575f2a2", checked := Try.checked }
namespace Rows
def none {H : Type} : Left H := { results := [], args := [] }

/-- 'laws.FnClamped': WHATEVER THE INPUT: true; the input reads as it did. -/
def fnClampedSpec : ChangeSpec := { name := "fnClamped", fn := fun _ => fun
  | [d] => { results := [.lit (.bool true)], args := [d] }
  | _ => none }
def fnClampedRow : OpenClaim := { program := "ytmnddbgblhmlbaa", sum := "9b3779f838fec18f62a561ec5595717d68e4fd0727efaa18cbb4bbcb4575f2a2", func := "loop.example/g03315/laws.FnClamped", spec := "fnClamped", apart := false }
def FnClampedSaid : Prop := fnClampedRow.holds Try.pinned (OpenSpec.ofChange fnClampedSpec)

/-- ITS FALSE NEIGHBOUR: 'it returns false'. Refute it at one input. -/
def fnClampedWrong : ChangeSpec := { name := "fnClamped", fn := fun _ => fun
  | [d] => { results := [.lit (.bool false)], args := [d] }
  | _ => none }
def FnClampedWrongFalsely : Prop := fnClampedRow.holds Try.pinned (OpenSpec.ofChange fnClampedWrong)

/-- 'laws.FnExactScriptInput': WHATEVER THE INPUT: true; the input reads as it did. -/
def fnExactScriptInputSpec : ChangeSpec := { name := "fnExactScriptInput", fn := fun _ => fun
  | [d1, d2, d3] => { results := [.lit (.bool true)], args := [d1, d2, d3] }
  | _ => none }
def fnExactScriptInputRow : OpenClaim := { program := "ytmnddbgblhmlbaa", sum := "9b3779f838fec18f62a561ec5595717d68e4fd0727efaa18cbb4bbcb4575f2a2", func := "loop.example/g03315/laws.FnExactScriptInput", spec := "fnExactScriptInput", apart := false }
def FnExactScriptInputSaid : Prop := fnExactScriptInputRow.holds Try.pinned (OpenSpec.ofChange fnExactScriptInputSpec)

/-- ITS FALSE NEIGHBOUR: 'it returns false'. Refute it at one input. -/
def fnExactScriptInputWrong : ChangeSpec := { name := "fnExactScriptInput", fn := fun _ => fun
  | [d1, d2, d3] => { results := [.lit (.bool false)], args := [d1, d2, d3] }
  | _ => none }
def FnExactScriptInputWrongFalsely : Prop := fnExactScriptInputRow.holds Try.pinned (OpenSpec.ofChange fnExactScriptInputWrong)

/-- 'laws.FnExactTrackOk': WHATEVER THE INPUT: true; the input reads as it did. -/
def fnExactTrackOkSpec : ChangeSpec := { name := "fnExactTrackOk", fn := fun _ => fun
  | [d] => { results := [.lit (.bool true)], args := [d] }
  | _ => none }
def fnExactTrackOkRow : OpenClaim := { program := "ytmnddbgblhmlbaa", sum := "9b3779f838fec18f62a561ec5595717d68e4fd0727efaa18cbb4bbcb4575f2a2", func := "loop.example/g03315/laws.FnExactTrackOk", spec := "fnExactTrackOk", apart := false }
def FnExactTrackOkSaid : Prop := fnExactTrackOkRow.holds Try.pinned (OpenSpec.ofChange fnExactTrackOkSpec)

/-- ITS FALSE NEIGHBOUR: 'it returns false'. Refute it at one input. -/
def fnExactTrackOkWrong : ChangeSpec := { name := "fnExactTrackOk", fn := fun _ => fun
  | [d] => { results := [.lit (.bool false)], args := [d] }
  | _ => none }
def FnExactTrackOkWrongFalsely : Prop := fnExactTrackOkRow.holds Try.pinned (OpenSpec.ofChange fnExactTrackOkWrong)

/-- 'laws.FnExactSameTrack': WHATEVER THE INPUT: true; the input reads as it did. -/
def fnExactSameTrackSpec : ChangeSpec := { name := "fnExactSameTrack", fn := fun _ => fun
  | [d1, d2] => { results := [.lit (.bool true)], args := [d1, d2] }
  | _ => none }
def fnExactSameTrackRow : OpenClaim := { program := "ytmnddbgblhmlbaa", sum := "9b3779f838fec18f62a561ec5595717d68e4fd0727efaa18cbb4bbcb4575f2a2", func := "loop.example/g03315/laws.FnExactSameTrack", spec := "fnExactSameTrack", apart := false }
def FnExactSameTrackSaid : Prop := fnExactSameTrackRow.holds Try.pinned (OpenSpec.ofChange fnExactSameTrackSpec)

/-- ITS FALSE NEIGHBOUR: 'it returns false'. Refute it at one input. -/
def fnExactSameTrackWrong : ChangeSpec := { name := "fnExactSameTrack", fn := fun _ => fun
  | [d1, d2] => { results := [.lit (.bool false)], args := [d1, d2] }
  | _ => none }
def FnExactSameTrackWrongFalsely : Prop := fnExactSameTrackRow.holds Try.pinned (OpenSpec.ofChange fnExactSameTrackWrong)

/-- 'laws.FnExactPackInts': WHATEVER THE INPUT: true; the input reads as it did. -/
def fnExactPackIntsSpec : ChangeSpec := { name := "fnExactPackInts", fn := fun _ => fun
  | [d] => { results := [.lit (.bool true)], args := [d] }
  | _ => none }
def fnExactPackIntsRow : OpenClaim := { program := "ytmnddbgblhmlbaa", sum := "9b3779f838fec18f62a561ec5595717d68e4fd0727efaa18cbb4bbcb4575f2a2", func := "loop.example/g03315/laws.FnExactPackInts", spec := "fnExactPackInts", apart := false }
def FnExactPackIntsSaid : Prop := fnExactPackIntsRow.holds Try.pinned (OpenSpec.ofChange fnExactPackIntsSpec)

/-- ITS FALSE NEIGHBOUR: 'it returns false'. Refute it at one input. -/
def fnExactPackIntsWrong : ChangeSpec := { name := "fnExactPackInts", fn := fun _ => fun
  | [d] => { results := [.lit (.bool false)], args := [d] }
  | _ => none }
def FnExactPackIntsWrongFalsely : Prop := fnExactPackIntsRow.holds Try.pinned (OpenSpec.ofChange fnExactPackIntsWrong)

/-- 'laws.FnExactSplitFields': WHATEVER THE INPUT: true; the input reads as it did. -/
def fnExactSplitFieldsSpec : ChangeSpec := { name := "fnExactSplitFields", fn := fun _ => fun
  | [d] => { results := [.lit (.bool true)], args := [d] }
  | _ => none }
def fnExactSplitFieldsRow : OpenClaim := { program := "ytmnddbgblhmlbaa", sum := "9b3779f838fec18f62a561ec5595717d68e4fd0727efaa18cbb4bbcb4575f2a2", func := "loop.example/g03315/laws.FnExactSplitFields", spec := "fnExactSplitFields", apart := false }
def FnExactSplitFieldsSaid : Prop := fnExactSplitFieldsRow.holds Try.pinned (OpenSpec.ofChange fnExactSplitFieldsSpec)

/-- ITS FALSE NEIGHBOUR: 'it returns false'. Refute it at one input. -/
def fnExactSplitFieldsWrong : ChangeSpec := { name := "fnExactSplitFields", fn := fun _ => fun
  | [d] => { results := [.lit (.bool false)], args := [d] }
  | _ => none }
def FnExactSplitFieldsWrongFalsely : Prop := fnExactSplitFieldsRow.holds Try.pinned (OpenSpec.ofChange fnExactSplitFieldsWrong)

/-- 'laws.FnExactPackTrack': WHATEVER THE INPUT: true; the input reads as it did. -/
def fnExactPackTrackSpec : ChangeSpec := { name := "fnExactPackTrack", fn := fun _ => fun
  | [d] => { results := [.lit (.bool true)], args := [d] }
  | _ => none }
def fnExactPackTrackRow : OpenClaim := { program := "ytmnddbgblhmlbaa", sum := "9b3779f838fec18f62a561ec5595717d68e4fd0727efaa18cbb4bbcb4575f2a2", func := "loop.example/g03315/laws.FnExactPackTrack", spec := "fnExactPackTrack", apart := false }
def FnExactPackTrackSaid : Prop := fnExactPackTrackRow.holds Try.pinned (OpenSpec.ofChange fnExactPackTrackSpec)

/-- ITS FALSE NEIGHBOUR: 'it returns false'. Refute it at one input. -/
def fnExactPackTrackWrong : ChangeSpec := { name := "fnExactPackTrack", fn := fun _ => fun
  | [d] => { results := [.lit (.bool false)], args := [d] }
  | _ => none }
def FnExactPackTrackWrongFalsely : Prop := fnExactPackTrackRow.holds Try.pinned (OpenSpec.ofChange fnExactPackTrackWrong)

/-- 'laws.FnSealed': WHATEVER THE INPUT: true; the input reads as it did. -/
def fnSealedSpec : ChangeSpec := { name := "fnSealed", fn := fun _ => fun
  | [d] => { results := [.lit (.bool true)], args := [d] }
  | _ => none }
def fnSealedRow : OpenClaim := { program := "ytmnddbgblhmlbaa", sum := "9b3779f838fec18f62a561ec5595717d68e4fd0727efaa18cbb4bbcb4575f2a2", func := "loop.example/g03315/laws.FnSealed", spec := "fnSealed", apart := false }
def FnSealedSaid : Prop := fnSealedRow.holds Try.pinned (OpenSpec.ofChange fnSealedSpec)

/-- ITS FALSE NEIGHBOUR: 'it returns false'. Refute it at one input. -/
def fnSealedWrong : ChangeSpec := { name := "fnSealed", fn := fun _ => fun
  | [d] => { results := [.lit (.bool false)], args := [d] }
  | _ => none }
def FnSealedWrongFalsely : Prop := fnSealedRow.holds Try.pinned (OpenSpec.ofChange fnSealedWrong)

/-- 'laws.FnNumbers': WHATEVER THE INPUT: true; the input reads as it did. -/
def fnNumbersSpec : ChangeSpec := { name := "fnNumbers", fn := fun _ => fun
  | [d] => { results := [.lit (.bool true)], args := [d] }
  | _ => none }
def fnNumbersRow : OpenClaim := { program := "ytmnddbgblhmlbaa", sum := "9b3779f838fec18f62a561ec5595717d68e4fd0727efaa18cbb4bbcb4575f2a2", func := "loop.example/g03315/laws.FnNumbers", spec := "fnNumbers", apart := false }
def FnNumbersSaid : Prop := fnNumbersRow.holds Try.pinned (OpenSpec.ofChange fnNumbersSpec)

/-- ITS FALSE NEIGHBOUR: 'it returns false'. Refute it at one input. -/
def fnNumbersWrong : ChangeSpec := { name := "fnNumbers", fn := fun _ => fun
  | [d] => { results := [.lit (.bool false)], args := [d] }
  | _ => none }
def FnNumbersWrongFalsely : Prop := fnNumbersRow.holds Try.pinned (OpenSpec.ofChange fnNumbersWrong)

/-- 'laws.FnExactUnpackInts': WHATEVER THE INPUT: true; the input reads as it did. -/
def fnExactUnpackIntsSpec : ChangeSpec := { name := "fnExactUnpackInts", fn := fun _ => fun
  | [d1, d2] => { results := [.lit (.bool true)], args := [d1, d2] }
  | _ => none }
def fnExactUnpackIntsRow : OpenClaim := { program := "ytmnddbgblhmlbaa", sum := "9b3779f838fec18f62a561ec5595717d68e4fd0727efaa18cbb4bbcb4575f2a2", func := "loop.example/g03315/laws.FnExactUnpackInts", spec := "fnExactUnpackInts", apart := false }
def FnExactUnpackIntsSaid : Prop := fnExactUnpackIntsRow.holds Try.pinned (OpenSpec.ofChange fnExactUnpackIntsSpec)

/-- ITS FALSE NEIGHBOUR: 'it returns false'. Refute it at one input. -/
def fnExactUnpackIntsWrong : ChangeSpec := { name := "fnExactUnpackInts", fn := fun _ => fun
  | [d1, d2] => { results := [.lit (.bool false)], args := [d1, d2] }
  | _ => none }
def FnExactUnpackIntsWrongFalsely : Prop := fnExactUnpackIntsRow.holds Try.pinned (OpenSpec.ofChange fnExactUnpackIntsWrong)

/-- 'laws.FnExactUnpackZeros': WHATEVER THE INPUT: true; the input reads as it did. -/
def fnExactUnpackZerosSpec : ChangeSpec := { name := "fnExactUnpackZeros", fn := fun _ => fun
  | [d] => { results := [.lit (.bool true)], args := [d] }
  | _ => none }
def fnExactUnpackZerosRow : OpenClaim := { program := "ytmnddbgblhmlbaa", sum := "9b3779f838fec18f62a561ec5595717d68e4fd0727efaa18cbb4bbcb4575f2a2", func := "loop.example/g03315/laws.FnExactUnpackZeros", spec := "fnExactUnpackZeros", apart := false }
def FnExactUnpackZerosSaid : Prop := fnExactUnpackZerosRow.holds Try.pinned (OpenSpec.ofChange fnExactUnpackZerosSpec)

/-- ITS FALSE NEIGHBOUR: 'it returns false'. Refute it at one input. -/
def fnExactUnpackZerosWrong : ChangeSpec := { name := "fnExactUnpackZeros", fn := fun _ => fun
  | [d] => { results := [.lit (.bool false)], args := [d] }
  | _ => none }
def FnExactUnpackZerosWrongFalsely : Prop := fnExactUnpackZerosRow.holds Try.pinned (OpenSpec.ofChange fnExactUnpackZerosWrong)

/-- 'laws.FnDeltas': WHATEVER THE INPUT: true; the input reads as it did. -/
def fnDeltasSpec : ChangeSpec := { name := "fnDeltas", fn := fun _ => fun
  | [d] => { results := [.lit (.bool true)], args := [d] }
  | _ => none }
def fnDeltasRow : OpenClaim := { program := "ytmnddbgblhmlbaa", sum := "9b3779f838fec18f62a561ec5595717d68e4fd0727efaa18cbb4bbcb4575f2a2", func := "loop.example/g03315/laws.FnDeltas", spec := "fnDeltas", apart := false }
def FnDeltasSaid : Prop := fnDeltasRow.holds Try.pinned (OpenSpec.ofChange fnDeltasSpec)

/-- ITS FALSE NEIGHBOUR: 'it returns false'. Refute it at one input. -/
def fnDeltasWrong : ChangeSpec := { name := "fnDeltas", fn := fun _ => fun
  | [d] => { results := [.lit (.bool false)], args := [d] }
  | _ => none }
def FnDeltasWrongFalsely : Prop := fnDeltasRow.holds Try.pinned (OpenSpec.ofChange fnDeltasWrong)

/-- 'laws.FnExactApplyDelta': WHATEVER THE INPUT: true; the input reads as it did. -/
def fnExactApplyDeltaSpec : ChangeSpec := { name := "fnExactApplyDelta", fn := fun _ => fun
  | [d1, d2] => { results := [.lit (.bool true)], args := [d1, d2] }
  | _ => none }
def fnExactApplyDeltaRow : OpenClaim := { program := "ytmnddbgblhmlbaa", sum := "9b3779f838fec18f62a561ec5595717d68e4fd0727efaa18cbb4bbcb4575f2a2", func := "loop.example/g03315/laws.FnExactApplyDelta", spec := "fnExactApplyDelta", apart := false }
def FnExactApplyDeltaSaid : Prop := fnExactApplyDeltaRow.holds Try.pinned (OpenSpec.ofChange fnExactApplyDeltaSpec)

/-- ITS FALSE NEIGHBOUR: 'it returns false'. Refute it at one input. -/
def fnExactApplyDeltaWrong : ChangeSpec := { name := "fnExactApplyDelta", fn := fun _ => fun
  | [d1, d2] => { results := [.lit (.bool false)], args := [d1, d2] }
  | _ => none }
def FnExactApplyDeltaWrongFalsely : Prop := fnExactApplyDeltaRow.holds Try.pinned (OpenSpec.ofChange fnExactApplyDeltaWrong)

/- THE SECOND FORM. 'bulk': how many values and letters a reading holds, each counted each time it is reached (what is shared counts as often as it is met; a slice's spare places count too). A statement '..UptoSaid' is the law's where the arguments, and the package variables that the reading takes, are together of bulk at most 1048576: NARROWER than '..Said'. Prove '..Said' where nothing that the law and all that it calls make is longer than what came in: it says more and counts as full. Else prove '..UptoSaid'. A law counts once. -/
mutual
def uptoBulk {H : Type} : DataW H → Nat
  | .lit (.string bytes) => bytes.length + 1
  | .lit _ => 1
  | .nil => 1
  | .ptr d => uptoBulk d + 1
  | .slice elems spare => uptoBulkAll elems + uptoBulkAll spare + 1
  | .agg parts => uptoBulkAll parts + 1
  | .iface _ d => uptoBulk d + 1
  | .map entries => uptoBulkEntries entries + 1
  | .held _ => 1
def uptoBulkAll {H : Type} : List (DataW H) → Nat
  | [] => 0
  | d :: r => uptoBulk d + uptoBulkAll r
def uptoBulkEntries {H : Type} : List (Lit × DataW H) → Nat
  | [] => 0
  | x :: r => uptoBulkEntry x + uptoBulkEntries r
def uptoBulkEntry {H : Type} : Lit × DataW H → Nat
  | (.string bytes, d) => bytes.length + uptoBulk d + 1
  | (_, d) => uptoBulk d + 1
 end
def uptoSmall : (H : Type) → List (DataW H) → Bool := fun _ ds => decide (uptoBulkAll ds ≤ 1048576)
def OpenSpec.upto (s : _root_.Go.ChangeSpec) : _root_.Go.OpenSpec := { _root_.Go.OpenSpec.ofChange s with cond := some uptoSmall }

/-- 'laws.FnClamped', WHERE WHAT IT READS IS OF BULK AT MOST 1048576: true; the input reads as it did. -/
def fnClampedUptoRow : OpenClaim := { program := "ytmnddbgblhmlbaa", sum := "9b3779f838fec18f62a561ec5595717d68e4fd0727efaa18cbb4bbcb4575f2a2", func := "loop.example/g03315/laws.FnClamped", spec := "fnClamped", apart := false, narrowed := true }
def FnClampedUptoSaid : Prop := fnClampedUptoRow.holds Try.pinned (OpenSpec.upto fnClampedSpec)

/-- 'laws.FnExactScriptInput', WHERE WHAT IT READS IS OF BULK AT MOST 1048576: true; the input reads as it did. -/
def fnExactScriptInputUptoRow : OpenClaim := { program := "ytmnddbgblhmlbaa", sum := "9b3779f838fec18f62a561ec5595717d68e4fd0727efaa18cbb4bbcb4575f2a2", func := "loop.example/g03315/laws.FnExactScriptInput", spec := "fnExactScriptInput", apart := false, narrowed := true }
def FnExactScriptInputUptoSaid : Prop := fnExactScriptInputUptoRow.holds Try.pinned (OpenSpec.upto fnExactScriptInputSpec)

/-- 'laws.FnExactTrackOk', WHERE WHAT IT READS IS OF BULK AT MOST 1048576: true; the input reads as it did. -/
def fnExactTrackOkUptoRow : OpenClaim := { program := "ytmnddbgblhmlbaa", sum := "9b3779f838fec18f62a561ec5595717d68e4fd0727efaa18cbb4bbcb4575f2a2", func := "loop.example/g03315/laws.FnExactTrackOk", spec := "fnExactTrackOk", apart := false, narrowed := true }
def FnExactTrackOkUptoSaid : Prop := fnExactTrackOkUptoRow.holds Try.pinned (OpenSpec.upto fnExactTrackOkSpec)

/-- 'laws.FnExactSameTrack', WHERE WHAT IT READS IS OF BULK AT MOST 1048576: true; the input reads as it did. -/
def fnExactSameTrackUptoRow : OpenClaim := { program := "ytmnddbgblhmlbaa", sum := "9b3779f838fec18f62a561ec5595717d68e4fd0727efaa18cbb4bbcb4575f2a2", func := "loop.example/g03315/laws.FnExactSameTrack", spec := "fnExactSameTrack", apart := false, narrowed := true }
def FnExactSameTrackUptoSaid : Prop := fnExactSameTrackUptoRow.holds Try.pinned (OpenSpec.upto fnExactSameTrackSpec)

/-- 'laws.FnExactPackInts', WHERE WHAT IT READS IS OF BULK AT MOST 1048576: true; the input reads as it did. -/
def fnExactPackIntsUptoRow : OpenClaim := { program := "ytmnddbgblhmlbaa", sum := "9b3779f838fec18f62a561ec5595717d68e4fd0727efaa18cbb4bbcb4575f2a2", func := "loop.example/g03315/laws.FnExactPackInts", spec := "fnExactPackInts", apart := false, narrowed := true }
def FnExactPackIntsUptoSaid : Prop := fnExactPackIntsUptoRow.holds Try.pinned (OpenSpec.upto fnExactPackIntsSpec)

/-- 'laws.FnExactSplitFields', WHERE WHAT IT READS IS OF BULK AT MOST 1048576: true; the input reads as it did. -/
def fnExactSplitFieldsUptoRow : OpenClaim := { program := "ytmnddbgblhmlbaa", sum := "9b3779f838fec18f62a561ec5595717d68e4fd0727efaa18cbb4bbcb4575f2a2", func := "loop.example/g03315/laws.FnExactSplitFields", spec := "fnExactSplitFields", apart := false, narrowed := true }
def FnExactSplitFieldsUptoSaid : Prop := fnExactSplitFieldsUptoRow.holds Try.pinned (OpenSpec.upto fnExactSplitFieldsSpec)

/-- 'laws.FnExactPackTrack', WHERE WHAT IT READS IS OF BULK AT MOST 1048576: true; the input reads as it did. -/
def fnExactPackTrackUptoRow : OpenClaim := { program := "ytmnddbgblhmlbaa", sum := "9b3779f838fec18f62a561ec5595717d68e4fd0727efaa18cbb4bbcb4575f2a2", func := "loop.example/g03315/laws.FnExactPackTrack", spec := "fnExactPackTrack", apart := false, narrowed := true }
def FnExactPackTrackUptoSaid : Prop := fnExactPackTrackUptoRow.holds Try.pinned (OpenSpec.upto fnExactPackTrackSpec)

/-- 'laws.FnSealed', WHERE WHAT IT READS IS OF BULK AT MOST 1048576: true; the input reads as it did. -/
def fnSealedUptoRow : OpenClaim := { program := "ytmnddbgblhmlbaa", sum := "9b3779f838fec18f62a561ec5595717d68e4fd0727efaa18cbb4bbcb4575f2a2", func := "loop.example/g03315/laws.FnSealed", spec := "fnSealed", apart := false, narrowed := true }
def FnSealedUptoSaid : Prop := fnSealedUptoRow.holds Try.pinned (OpenSpec.upto fnSealedSpec)

/-- 'laws.FnNumbers', WHERE WHAT IT READS IS OF BULK AT MOST 1048576: true; the input reads as it did. -/
def fnNumbersUptoRow : OpenClaim := { program := "ytmnddbgblhmlbaa", sum := "9b3779f838fec18f62a561ec5595717d68e4fd0727efaa18cbb4bbcb4575f2a2", func := "loop.example/g03315/laws.FnNumbers", spec := "fnNumbers", apart := false, narrowed := true }
def FnNumbersUptoSaid : Prop := fnNumbersUptoRow.holds Try.pinned (OpenSpec.upto fnNumbersSpec)

/-- 'laws.FnExactUnpackInts', WHERE WHAT IT READS IS OF BULK AT MOST 1048576: true; the input reads as it did. -/
def fnExactUnpackIntsUptoRow : OpenClaim := { program := "ytmnddbgblhmlbaa", sum := "9b3779f838fec18f62a561ec5595717d68e4fd0727efaa18cbb4bbcb4575f2a2", func := "loop.example/g03315/laws.FnExactUnpackInts", spec := "fnExactUnpackInts", apart := false, narrowed := true }
def FnExactUnpackIntsUptoSaid : Prop := fnExactUnpackIntsUptoRow.holds Try.pinned (OpenSpec.upto fnExactUnpackIntsSpec)

/-- 'laws.FnExactUnpackZeros', WHERE WHAT IT READS IS OF BULK AT MOST 1048576: true; the input reads as it did. -/
def fnExactUnpackZerosUptoRow : OpenClaim := { program := "ytmnddbgblhmlbaa", sum := "9b3779f838fec18f62a561ec5595717d68e4fd0727efaa18cbb4bbcb4575f2a2", func := "loop.example/g03315/laws.FnExactUnpackZeros", spec := "fnExactUnpackZeros", apart := false, narrowed := true }
def FnExactUnpackZerosUptoSaid : Prop := fnExactUnpackZerosUptoRow.holds Try.pinned (OpenSpec.upto fnExactUnpackZerosSpec)

/-- 'laws.FnDeltas', WHERE WHAT IT READS IS OF BULK AT MOST 1048576: true; the input reads as it did. -/
def fnDeltasUptoRow : OpenClaim := { program := "ytmnddbgblhmlbaa", sum := "9b3779f838fec18f62a561ec5595717d68e4fd0727efaa18cbb4bbcb4575f2a2", func := "loop.example/g03315/laws.FnDeltas", spec := "fnDeltas", apart := false, narrowed := true }
def FnDeltasUptoSaid : Prop := fnDeltasUptoRow.holds Try.pinned (OpenSpec.upto fnDeltasSpec)

/-- 'laws.FnExactApplyDelta', WHERE WHAT IT READS IS OF BULK AT MOST 1048576: true; the input reads as it did. -/
def fnExactApplyDeltaUptoRow : OpenClaim := { program := "ytmnddbgblhmlbaa", sum := "9b3779f838fec18f62a561ec5595717d68e4fd0727efaa18cbb4bbcb4575f2a2", func := "loop.example/g03315/laws.FnExactApplyDelta", spec := "fnExactApplyDelta", apart := false, narrowed := true }
def FnExactApplyDeltaUptoSaid : Prop := fnExactApplyDeltaUptoRow.holds Try.pinned (OpenSpec.upto fnExactApplyDeltaSpec)

end Rows
end Go.Proofs.Ytmnddbgblhmlbaa
