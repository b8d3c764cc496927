/-
  No cell of these rows narrows 'for every input' (looked for: loops, veiled, ifaces, maps, wideKeys, modest, calm, conditions, laid).
  DERIVED. THE GIVEN ROWS OF THIS SEAT. 10 by the template 'for every input the law returns true; each argument reads behind the call as it read before'; 0 by the template 'total and deterministic' (their statements: YtmamihkcikgmcaaTotals.lean).
  GIVEN WITH THE SEED: the statements are not yours to turn. If you find one false, say at which input.
  Laid BY PROGRAM, IN A SANDBOX (cutbox-rows.mjs): the forced cells as the released guide's own fill.sh prints them over the translation c624d9af899d77bb… (all of the seat's roots in one cut). By AI agents, Wed Nov 11 2026. No macro, syntax, notation, axiom, sorry.
-/
import Derived.Test.YtmamihkcikgmcaaChecked
import GoSem.Claim
import GoSem.ClaimJoined
import GoSem.ClaimMapViews
import Derived.JoinedTies
import Derived.KernelRfl
namespace Go.Proofs.Ytmamihkcikgmcaa
/- THE CELL 'sum', in the pinned program and in every row, IS THE sha256 OF THE DUMP (.gsa) THAT YtmamihkcikgmcaaProg.lean LOADS. Nothing in Lean hashes anything: it is a label: what it is worth is what the hold of that sum in a sandbox is worth. -/
noncomputable def Try.pinned : Pinned := { name := "ytmamihkcikgmcaa", sum := "c624d9af899d77bb07df69ddf8e4fac35e5c05b8684c8ac9bd99d1e25c689317", checked := Try.checked }
namespace Rows
def none {H : Type} : Left H := { results := [], args := [] }

/-- 'laws.FnExactFormatLevel': WHATEVER THE INPUT: true; the input reads as it did. -/
def fnExactFormatLevelSpec : ChangeSpec := { name := "fnExactFormatLevel", fn := fun _ => fun
  | [d] => { results := [.lit (.bool true)], args := [d] }
  | _ => none }
def fnExactFormatLevelRow : OpenClaim := { program := "ytmamihkcikgmcaa", sum := "c624d9af899d77bb07df69ddf8e4fac35e5c05b8684c8ac9bd99d1e25c689317", func := "loop.example/g03315/laws.FnExactFormatLevel", spec := "fnExactFormatLevel", inPlace := ["internal/abi.NoEscape", "internal/bytealg.MakeNoZero"], apart := false }
def FnExactFormatLevelSaid : Prop := fnExactFormatLevelRow.holds Try.pinned (OpenSpec.ofChange fnExactFormatLevelSpec)

/-- ITS FALSE NEIGHBOUR: 'it returns false'. Refute it at one input. -/
def fnExactFormatLevelWrong : ChangeSpec := { name := "fnExactFormatLevel", fn := fun _ => fun
  | [d] => { results := [.lit (.bool false)], args := [d] }
  | _ => none }
def FnExactFormatLevelWrongFalsely : Prop := fnExactFormatLevelRow.holds Try.pinned (OpenSpec.ofChange fnExactFormatLevelWrong)

/-- 'laws.FnMoves': WHATEVER THE INPUT: true; the input reads as it did. -/
def fnMovesSpec : ChangeSpec := { name := "fnMoves", fn := fun _ => fun
  | [d] => { results := [.lit (.bool true)], args := [d] }
  | _ => none }
def fnMovesRow : OpenClaim := { program := "ytmamihkcikgmcaa", sum := "c624d9af899d77bb07df69ddf8e4fac35e5c05b8684c8ac9bd99d1e25c689317", func := "loop.example/g03315/laws.FnMoves", spec := "fnMoves", apart := false }
def FnMovesSaid : Prop := fnMovesRow.holds Try.pinned (OpenSpec.ofChange fnMovesSpec)

/-- ITS FALSE NEIGHBOUR: 'it returns false'. Refute it at one input. -/
def fnMovesWrong : ChangeSpec := { name := "fnMoves", fn := fun _ => fun
  | [d] => { results := [.lit (.bool false)], args := [d] }
  | _ => none }
def FnMovesWrongFalsely : Prop := fnMovesRow.holds Try.pinned (OpenSpec.ofChange fnMovesWrong)

/-- 'laws.FnExactNewWorld': WHATEVER THE INPUT: true; the input reads as it did. -/
def fnExactNewWorldSpec : ChangeSpec := { name := "fnExactNewWorld", fn := fun _ => fun
  | [d1, d2, d3] => { results := [.lit (.bool true)], args := [d1, d2, d3] }
  | _ => none }
def fnExactNewWorldRow : OpenClaim := { program := "ytmamihkcikgmcaa", sum := "c624d9af899d77bb07df69ddf8e4fac35e5c05b8684c8ac9bd99d1e25c689317", func := "loop.example/g03315/laws.FnExactNewWorld", spec := "fnExactNewWorld", apart := false }
def FnExactNewWorldSaid : Prop := fnExactNewWorldRow.holds Try.pinned (OpenSpec.ofChange fnExactNewWorldSpec)

/-- ITS FALSE NEIGHBOUR: 'it returns false'. Refute it at one input. -/
def fnExactNewWorldWrong : ChangeSpec := { name := "fnExactNewWorld", fn := fun _ => fun
  | [d1, d2, d3] => { results := [.lit (.bool false)], args := [d1, d2, d3] }
  | _ => none }
def FnExactNewWorldWrongFalsely : Prop := fnExactNewWorldRow.holds Try.pinned (OpenSpec.ofChange fnExactNewWorldWrong)

/-- 'laws.FnSteered': WHATEVER THE INPUT: true; the input reads as it did. -/
def fnSteeredSpec : ChangeSpec := { name := "fnSteered", fn := fun _ => fun
  | [d] => { results := [.lit (.bool true)], args := [d] }
  | _ => none }
def fnSteeredRow : OpenClaim := { program := "ytmamihkcikgmcaa", sum := "c624d9af899d77bb07df69ddf8e4fac35e5c05b8684c8ac9bd99d1e25c689317", func := "loop.example/g03315/laws.FnSteered", spec := "fnSteered", apart := false }
def FnSteeredSaid : Prop := fnSteeredRow.holds Try.pinned (OpenSpec.ofChange fnSteeredSpec)

/-- ITS FALSE NEIGHBOUR: 'it returns false'. Refute it at one input. -/
def fnSteeredWrong : ChangeSpec := { name := "fnSteered", fn := fun _ => fun
  | [d] => { results := [.lit (.bool false)], args := [d] }
  | _ => none }
def FnSteeredWrongFalsely : Prop := fnSteeredRow.holds Try.pinned (OpenSpec.ofChange fnSteeredWrong)

/-- 'laws.FnIdle': WHATEVER THE INPUT: true; the input reads as it did. -/
def fnIdleSpec : ChangeSpec := { name := "fnIdle", fn := fun _ => fun
  | [d] => { results := [.lit (.bool true)], args := [d] }
  | _ => none }
def fnIdleRow : OpenClaim := { program := "ytmamihkcikgmcaa", sum := "c624d9af899d77bb07df69ddf8e4fac35e5c05b8684c8ac9bd99d1e25c689317", func := "loop.example/g03315/laws.FnIdle", spec := "fnIdle", apart := false }
def FnIdleSaid : Prop := fnIdleRow.holds Try.pinned (OpenSpec.ofChange fnIdleSpec)

/-- ITS FALSE NEIGHBOUR: 'it returns false'. Refute it at one input. -/
def fnIdleWrong : ChangeSpec := { name := "fnIdle", fn := fun _ => fun
  | [d] => { results := [.lit (.bool false)], args := [d] }
  | _ => none }
def FnIdleWrongFalsely : Prop := fnIdleRow.holds Try.pinned (OpenSpec.ofChange fnIdleWrong)

/-- 'laws.FnExactReadWorld': WHATEVER THE INPUT: true; the input reads as it did. -/
def fnExactReadWorldSpec : ChangeSpec := { name := "fnExactReadWorld", fn := fun _ => fun
  | [d1, d2] => { results := [.lit (.bool true)], args := [d1, d2] }
  | _ => none }
def fnExactReadWorldRow : OpenClaim := { program := "ytmamihkcikgmcaa", sum := "c624d9af899d77bb07df69ddf8e4fac35e5c05b8684c8ac9bd99d1e25c689317", func := "loop.example/g03315/laws.FnExactReadWorld", spec := "fnExactReadWorld", apart := false }
def FnExactReadWorldSaid : Prop := fnExactReadWorldRow.holds Try.pinned (OpenSpec.ofChange fnExactReadWorldSpec)

/-- ITS FALSE NEIGHBOUR: 'it returns false'. Refute it at one input. -/
def fnExactReadWorldWrong : ChangeSpec := { name := "fnExactReadWorld", fn := fun _ => fun
  | [d1, d2] => { results := [.lit (.bool false)], args := [d1, d2] }
  | _ => none }
def FnExactReadWorldWrongFalsely : Prop := fnExactReadWorldRow.holds Try.pinned (OpenSpec.ofChange fnExactReadWorldWrong)

/-- 'laws.FnWorldWhole': WHATEVER THE INPUT: true; the input reads as it did. -/
def fnWorldWholeSpec : ChangeSpec := { name := "fnWorldWhole", fn := fun _ => fun
  | [d] => { results := [.lit (.bool true)], args := [d] }
  | _ => none }
def fnWorldWholeRow : OpenClaim := { program := "ytmamihkcikgmcaa", sum := "c624d9af899d77bb07df69ddf8e4fac35e5c05b8684c8ac9bd99d1e25c689317", func := "loop.example/g03315/laws.FnWorldWhole", spec := "fnWorldWhole", apart := false }
def FnWorldWholeSaid : Prop := fnWorldWholeRow.holds Try.pinned (OpenSpec.ofChange fnWorldWholeSpec)

/-- ITS FALSE NEIGHBOUR: 'it returns false'. Refute it at one input. -/
def fnWorldWholeWrong : ChangeSpec := { name := "fnWorldWhole", fn := fun _ => fun
  | [d] => { results := [.lit (.bool false)], args := [d] }
  | _ => none }
def FnWorldWholeWrongFalsely : Prop := fnWorldWholeRow.holds Try.pinned (OpenSpec.ofChange fnWorldWholeWrong)

/-- 'laws.FnExactStepWorld': WHATEVER THE INPUT: true; the input reads as it did. -/
def fnExactStepWorldSpec : ChangeSpec := { name := "fnExactStepWorld", fn := fun _ => fun
  | [d1, d2] => { results := [.lit (.bool true)], args := [d1, d2] }
  | _ => none }
def fnExactStepWorldRow : OpenClaim := { program := "ytmamihkcikgmcaa", sum := "c624d9af899d77bb07df69ddf8e4fac35e5c05b8684c8ac9bd99d1e25c689317", func := "loop.example/g03315/laws.FnExactStepWorld", spec := "fnExactStepWorld", apart := false }
def FnExactStepWorldSaid : Prop := fnExactStepWorldRow.holds Try.pinned (OpenSpec.ofChange fnExactStepWorldSpec)

/-- ITS FALSE NEIGHBOUR: 'it returns false'. Refute it at one input. -/
def fnExactStepWorldWrong : ChangeSpec := { name := "fnExactStepWorld", fn := fun _ => fun
  | [d1, d2] => { results := [.lit (.bool false)], args := [d1, d2] }
  | _ => none }
def FnExactStepWorldWrongFalsely : Prop := fnExactStepWorldRow.holds Try.pinned (OpenSpec.ofChange fnExactStepWorldWrong)

/-- 'laws.FnExactRunWorld': WHATEVER THE INPUT: true; the input reads as it did. -/
def fnExactRunWorldSpec : ChangeSpec := { name := "fnExactRunWorld", fn := fun _ => fun
  | [d1, d2] => { results := [.lit (.bool true)], args := [d1, d2] }
  | _ => none }
def fnExactRunWorldRow : OpenClaim := { program := "ytmamihkcikgmcaa", sum := "c624d9af899d77bb07df69ddf8e4fac35e5c05b8684c8ac9bd99d1e25c689317", func := "loop.example/g03315/laws.FnExactRunWorld", spec := "fnExactRunWorld", apart := false }
def FnExactRunWorldSaid : Prop := fnExactRunWorldRow.holds Try.pinned (OpenSpec.ofChange fnExactRunWorldSpec)

/-- ITS FALSE NEIGHBOUR: 'it returns false'. Refute it at one input. -/
def fnExactRunWorldWrong : ChangeSpec := { name := "fnExactRunWorld", fn := fun _ => fun
  | [d1, d2] => { results := [.lit (.bool false)], args := [d1, d2] }
  | _ => none }
def FnExactRunWorldWrongFalsely : Prop := fnExactRunWorldRow.holds Try.pinned (OpenSpec.ofChange fnExactRunWorldWrong)

/-- 'laws.FnWorldStays': WHATEVER THE INPUT: true; the input reads as it did. -/
def fnWorldStaysSpec : ChangeSpec := { name := "fnWorldStays", fn := fun _ => fun
  | [d] => { results := [.lit (.bool true)], args := [d] }
  | _ => none }
def fnWorldStaysRow : OpenClaim := { program := "ytmamihkcikgmcaa", sum := "c624d9af899d77bb07df69ddf8e4fac35e5c05b8684c8ac9bd99d1e25c689317", func := "loop.example/g03315/laws.FnWorldStays", spec := "fnWorldStays", apart := false }
def FnWorldStaysSaid : Prop := fnWorldStaysRow.holds Try.pinned (OpenSpec.ofChange fnWorldStaysSpec)

/-- ITS FALSE NEIGHBOUR: 'it returns false'. Refute it at one input. -/
def fnWorldStaysWrong : ChangeSpec := { name := "fnWorldStays", fn := fun _ => fun
  | [d] => { results := [.lit (.bool false)], args := [d] }
  | _ => none }
def FnWorldStaysWrongFalsely : Prop := fnWorldStaysRow.holds Try.pinned (OpenSpec.ofChange fnWorldStaysWrong)

/- THE SECOND FORM. 'bulk': how many values and letters a reading holds, each counted each time it is reached (what is shared counts as often as it is met; a slice's spare places count too). A statement '..UptoSaid' is the law's where the arguments, and the package variables that the reading takes, are together of bulk at most 1048576: NARROWER than '..Said'. Prove '..Said' where nothing that the law and all that it calls make is longer than what came in: it says more and counts as full. Else prove '..UptoSaid'. A law counts once. -/
mutual
def uptoBulk {H : Type} : DataW H → Nat
  | .lit (.string bytes) => bytes.length + 1
  | .lit _ => 1
  | .nil => 1
  | .ptr d => uptoBulk d + 1
  | .slice elems spare => uptoBulkAll elems + uptoBulkAll spare + 1
  | .agg parts => uptoBulkAll parts + 1
  | .iface _ d => uptoBulk d + 1
  | .map entries => uptoBulkEntries entries + 1
  | .held _ => 1
def uptoBulkAll {H : Type} : List (DataW H) → Nat
  | [] => 0
  | d :: r => uptoBulk d + uptoBulkAll r
def uptoBulkEntries {H : Type} : List (Lit × DataW H) → Nat
  | [] => 0
  | x :: r => uptoBulkEntry x + uptoBulkEntries r
def uptoBulkEntry {H : Type} : Lit × DataW H → Nat
  | (.string bytes, d) => bytes.length + uptoBulk d + 1
  | (_, d) => uptoBulk d + 1
 end
def uptoSmall : (H : Type) → List (DataW H) → Bool := fun _ ds => decide (uptoBulkAll ds ≤ 1048576)
def OpenSpec.upto (s : _root_.Go.ChangeSpec) : _root_.Go.OpenSpec := { _root_.Go.OpenSpec.ofChange s with cond := some uptoSmall }

/-- 'laws.FnExactFormatLevel', WHERE WHAT IT READS IS OF BULK AT MOST 1048576: true; the input reads as it did. -/
def fnExactFormatLevelUptoRow : OpenClaim := { program := "ytmamihkcikgmcaa", sum := "c624d9af899d77bb07df69ddf8e4fac35e5c05b8684c8ac9bd99d1e25c689317", func := "loop.example/g03315/laws.FnExactFormatLevel", spec := "fnExactFormatLevel", inPlace := ["internal/abi.NoEscape", "internal/bytealg.MakeNoZero"], apart := false, narrowed := true }
def FnExactFormatLevelUptoSaid : Prop := fnExactFormatLevelUptoRow.holds Try.pinned (OpenSpec.upto fnExactFormatLevelSpec)

/-- 'laws.FnMoves', WHERE WHAT IT READS IS OF BULK AT MOST 1048576: true; the input reads as it did. -/
def fnMovesUptoRow : OpenClaim := { program := "ytmamihkcikgmcaa", sum := "c624d9af899d77bb07df69ddf8e4fac35e5c05b8684c8ac9bd99d1e25c689317", func := "loop.example/g03315/laws.FnMoves", spec := "fnMoves", apart := false, narrowed := true }
def FnMovesUptoSaid : Prop := fnMovesUptoRow.holds Try.pinned (OpenSpec.upto fnMovesSpec)

/-- 'laws.FnExactNewWorld', WHERE WHAT IT READS IS OF BULK AT MOST 1048576: true; the input reads as it did. -/
def fnExactNewWorldUptoRow : OpenClaim := { program := "ytmamihkcikgmcaa", sum := "c624d9af899d77bb07df69ddf8e4fac35e5c05b8684c8ac9bd99d1e25c689317", func := "loop.example/g03315/laws.FnExactNewWorld", spec := "fnExactNewWorld", apart := false, narrowed := true }
def FnExactNewWorldUptoSaid : Prop := fnExactNewWorldUptoRow.holds Try.pinned (OpenSpec.upto fnExactNewWorldSpec)

/-- 'laws.FnSteered', WHERE WHAT IT READS IS OF BULK AT MOST 1048576: true; the input reads as it did. -/
def fnSteeredUptoRow : OpenClaim := { program := "ytmamihkcikgmcaa", sum := "c624d9af899d77bb07df69ddf8e4fac35e5c05b8684c8ac9bd99d1e25c689317", func := "loop.example/g03315/laws.FnSteered", spec := "fnSteered", apart := false, narrowed := true }
def FnSteeredUptoSaid : Prop := fnSteeredUptoRow.holds Try.pinned (OpenSpec.upto fnSteeredSpec)

/-- 'laws.FnIdle', WHERE WHAT IT READS IS OF BULK AT MOST 1048576: true; the input reads as it did. -/
def fnIdleUptoRow : OpenClaim := { program := "ytmamihkcikgmcaa", sum := "c624d9af899d77bb07df69ddf8e4fac35e5c05b8684c8ac9bd99d1e25c689317", func := "loop.example/g03315/laws.FnIdle", spec := "fnIdle", apart := false, narrowed := true }
def FnIdleUptoSaid : Prop := fnIdleUptoRow.holds Try.pinned (OpenSpec.upto fnIdleSpec)

/-- 'laws.FnExactReadWorld', WHERE WHAT IT READS IS OF BULK AT MOST 1048576: true; the input reads as it did. -/
def fnExactReadWorldUptoRow : OpenClaim := { program := "ytmamihkcikgmcaa", sum := "c624d9af899d77bb07df69ddf8e4fac35e5c05b8684c8ac9bd99d1e25c689317", func := "loop.example/g03315/laws.FnExactReadWorld", spec := "fnExactReadWorld", apart := false, narrowed := true }
def FnExactReadWorldUptoSaid : Prop := fnExactReadWorldUptoRow.holds Try.pinned (OpenSpec.upto fnExactReadWorldSpec)

/-- 'laws.FnWorldWhole', WHERE WHAT IT READS IS OF BULK AT MOST 1048576: true; the input reads as it did. -/
def fnWorldWholeUptoRow : OpenClaim := { program := "ytmamihkcikgmcaa", sum := "c624d9af899d77bb07df69ddf8e4fac35e5c05b8684c8ac9bd99d1e25c689317", func := "loop.example/g03315/laws.FnWorldWhole", spec := "fnWorldWhole", apart := false, narrowed := true }
def FnWorldWholeUptoSaid : Prop := fnWorldWholeUptoRow.holds Try.pinned (OpenSpec.upto fnWorldWholeSpec)

/-- 'laws.FnExactStepWorld', WHERE WHAT IT READS IS OF BULK AT MOST 1048576: true; the input reads as it did. -/
def fnExactStepWorldUptoRow : OpenClaim := { program := "ytmamihkcikgmcaa", sum := "c624d9af899d77bb07df69ddf8e4fac35e5c05b8684c8ac9bd99d1e25c689317", func := "loop.example/g03315/laws.FnExactStepWorld", spec := "fnExactStepWorld", apart := false, narrowed := true }
def FnExactStepWorldUptoSaid : Prop := fnExactStepWorldUptoRow.holds Try.pinned (OpenSpec.upto fnExactStepWorldSpec)

/-- 'laws.FnExactRunWorld', WHERE WHAT IT READS IS OF BULK AT MOST 1048576: true; the input reads as it did. -/
def fnExactRunWorldUptoRow : OpenClaim := { program := "ytmamihkcikgmcaa", sum := "c624d9af899d77bb07df69ddf8e4fac35e5c05b8684c8ac9bd99d1e25c689317", func := "loop.example/g03315/laws.FnExactRunWorld", spec := "fnExactRunWorld", apart := false, narrowed := true }
def FnExactRunWorldUptoSaid : Prop := fnExactRunWorldUptoRow.holds Try.pinned (OpenSpec.upto fnExactRunWorldSpec)

/-- 'laws.FnWorldStays', WHERE WHAT IT READS IS OF BULK AT MOST 1048576: true; the input reads as it did. -/
def fnWorldStaysUptoRow : OpenClaim := { program := "ytmamihkcikgmcaa", sum := "c624d9af899d77bb07df69ddf8e4fac35e5c05b8684c8ac9bd99d1e25c689317", func := "loop.example/g03315/laws.FnWorldStays", spec := "fnWorldStays", apart := false, narrowed := true }
def FnWorldStaysUptoSaid : Prop := fnWorldStaysUptoRow.holds Try.pinned (OpenSpec.upto fnWorldStaysSpec)

end Rows
end Go.Proofs.Ytmamihkcikgmcaa
