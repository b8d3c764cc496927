/-
  No cell of these rows narrows 'for every input' (looked for: loops, veiled, ifaces, maps, wideKeys, modest, calm, conditions, laid).
  DERIVED. THE GIVEN ROWS OF THIS SEAT. 26 by the template 'for every input the law returns true; each argument reads behind the call as it read before'; 0 by the template 'total and deterministic' (their statements: YtegfbgjilgaijaaTotals.lean).
  GIVEN WITH THE SEED: the statements are not yours to turn. If you find one false, say at which input.
  Laid BY PROGRAM, IN A SANDBOX (cutbox-rows.mjs): the forced cells as the released guide's own fill.sh prints them over the translation 9b95937b5a719975… (all of the seat's roots in one cut). By AI agents, Wed Nov 11 2026. No macro, syntax, notation, axiom, sorry.
-/
import Derived.Test.YtegfbgjilgaijaaChecked
import GoSem.Claim
import GoSem.ClaimJoined
import GoSem.ClaimMapViews
import Derived.JoinedTies
import Derived.KernelRfl
namespace Go.Proofs.Ytegfbgjilgaijaa
/- THE CELL 'sum', in the pinned program and in every row, IS THE sha256 OF THE DUMP (.gsa) THAT YtegfbgjilgaijaaProg.lean LOADS. Nothing in Lean hashes anything: it is a label: what it is worth is what the hold of that sum in a sandbox is worth. -/
noncomputable def Try.pinned : Pinned := { name := "ytegfbgjilgaijaa", sum := "9b95937b5a719975c9cf9b5ac55e95c748c3526dcd8bc8e9accf9ef024286cb2", checked := Try.checked }
namespace Rows
def none {H : Type} : Left H := { results := [], args := [] }

/-- 'laws.FnExactEncodeVarint': WHATEVER THE INPUT: true; the input reads as it did. -/
def fnExactEncodeVarintSpec : ChangeSpec := { name := "fnExactEncodeVarint", fn := fun _ => fun
  | [d] => { results := [.lit (.bool true)], args := [d] }
  | _ => none }
def fnExactEncodeVarintRow : OpenClaim := { program := "ytegfbgjilgaijaa", sum := "9b95937b5a719975c9cf9b5ac55e95c748c3526dcd8bc8e9accf9ef024286cb2", func := "loop.example/g03315/laws.FnExactEncodeVarint", spec := "fnExactEncodeVarint", apart := false }
def FnExactEncodeVarintSaid : Prop := fnExactEncodeVarintRow.holds Try.pinned (OpenSpec.ofChange fnExactEncodeVarintSpec)

/-- ITS FALSE NEIGHBOUR: 'it returns false'. Refute it at one input. -/
def fnExactEncodeVarintWrong : ChangeSpec := { name := "fnExactEncodeVarint", fn := fun _ => fun
  | [d] => { results := [.lit (.bool false)], args := [d] }
  | _ => none }
def FnExactEncodeVarintWrongFalsely : Prop := fnExactEncodeVarintRow.holds Try.pinned (OpenSpec.ofChange fnExactEncodeVarintWrong)

/-- 'laws.FnExactEncodeHex': WHATEVER THE INPUT: true; the input reads as it did. -/
def fnExactEncodeHexSpec : ChangeSpec := { name := "fnExactEncodeHex", fn := fun _ => fun
  | [d] => { results := [.lit (.bool true)], args := [d] }
  | _ => none }
def fnExactEncodeHexRow : OpenClaim := { program := "ytegfbgjilgaijaa", sum := "9b95937b5a719975c9cf9b5ac55e95c748c3526dcd8bc8e9accf9ef024286cb2", func := "loop.example/g03315/laws.FnExactEncodeHex", spec := "fnExactEncodeHex", apart := false }
def FnExactEncodeHexSaid : Prop := fnExactEncodeHexRow.holds Try.pinned (OpenSpec.ofChange fnExactEncodeHexSpec)

/-- ITS FALSE NEIGHBOUR: 'it returns false'. Refute it at one input. -/
def fnExactEncodeHexWrong : ChangeSpec := { name := "fnExactEncodeHex", fn := fun _ => fun
  | [d] => { results := [.lit (.bool false)], args := [d] }
  | _ => none }
def FnExactEncodeHexWrongFalsely : Prop := fnExactEncodeHexRow.holds Try.pinned (OpenSpec.ofChange fnExactEncodeHexWrong)

/-- 'laws.FnExactRandomBelow': WHATEVER THE INPUT: true; the input reads as it did. -/
def fnExactRandomBelowSpec : ChangeSpec := { name := "fnExactRandomBelow", fn := fun _ => fun
  | [d1, d2] => { results := [.lit (.bool true)], args := [d1, d2] }
  | _ => none }
def fnExactRandomBelowRow : OpenClaim := { program := "ytegfbgjilgaijaa", sum := "9b95937b5a719975c9cf9b5ac55e95c748c3526dcd8bc8e9accf9ef024286cb2", func := "loop.example/g03315/laws.FnExactRandomBelow", spec := "fnExactRandomBelow", apart := false }
def FnExactRandomBelowSaid : Prop := fnExactRandomBelowRow.holds Try.pinned (OpenSpec.ofChange fnExactRandomBelowSpec)

/-- ITS FALSE NEIGHBOUR: 'it returns false'. Refute it at one input. -/
def fnExactRandomBelowWrong : ChangeSpec := { name := "fnExactRandomBelow", fn := fun _ => fun
  | [d1, d2] => { results := [.lit (.bool false)], args := [d1, d2] }
  | _ => none }
def FnExactRandomBelowWrongFalsely : Prop := fnExactRandomBelowRow.holds Try.pinned (OpenSpec.ofChange fnExactRandomBelowWrong)

/-- 'laws.FnRandoms': WHATEVER THE INPUT: true; the input reads as it did. -/
def fnRandomsSpec : ChangeSpec := { name := "fnRandoms", fn := fun _ => fun
  | [d] => { results := [.lit (.bool true)], args := [d] }
  | _ => none }
def fnRandomsRow : OpenClaim := { program := "ytegfbgjilgaijaa", sum := "9b95937b5a719975c9cf9b5ac55e95c748c3526dcd8bc8e9accf9ef024286cb2", func := "loop.example/g03315/laws.FnRandoms", spec := "fnRandoms", apart := false }
def FnRandomsSaid : Prop := fnRandomsRow.holds Try.pinned (OpenSpec.ofChange fnRandomsSpec)

/-- ITS FALSE NEIGHBOUR: 'it returns false'. Refute it at one input. -/
def fnRandomsWrong : ChangeSpec := { name := "fnRandoms", fn := fun _ => fun
  | [d] => { results := [.lit (.bool false)], args := [d] }
  | _ => none }
def FnRandomsWrongFalsely : Prop := fnRandomsRow.holds Try.pinned (OpenSpec.ofChange fnRandomsWrong)

/-- 'laws.FnExactPackText': WHATEVER THE INPUT: true; the input reads as it did. -/
def fnExactPackTextSpec : ChangeSpec := { name := "fnExactPackText", fn := fun _ => fun
  | [d] => { results := [.lit (.bool true)], args := [d] }
  | _ => none }
def fnExactPackTextRow : OpenClaim := { program := "ytegfbgjilgaijaa", sum := "9b95937b5a719975c9cf9b5ac55e95c748c3526dcd8bc8e9accf9ef024286cb2", func := "loop.example/g03315/laws.FnExactPackText", spec := "fnExactPackText", apart := false }
def FnExactPackTextSaid : Prop := fnExactPackTextRow.holds Try.pinned (OpenSpec.ofChange fnExactPackTextSpec)

/-- ITS FALSE NEIGHBOUR: 'it returns false'. Refute it at one input. -/
def fnExactPackTextWrong : ChangeSpec := { name := "fnExactPackText", fn := fun _ => fun
  | [d] => { results := [.lit (.bool false)], args := [d] }
  | _ => none }
def FnExactPackTextWrongFalsely : Prop := fnExactPackTextRow.holds Try.pinned (OpenSpec.ofChange fnExactPackTextWrong)

/-- 'laws.FnExactSealText': WHATEVER THE INPUT: true; the input reads as it did. -/
def fnExactSealTextSpec : ChangeSpec := { name := "fnExactSealText", fn := fun _ => fun
  | [d] => { results := [.lit (.bool true)], args := [d] }
  | _ => none }
def fnExactSealTextRow : OpenClaim := { program := "ytegfbgjilgaijaa", sum := "9b95937b5a719975c9cf9b5ac55e95c748c3526dcd8bc8e9accf9ef024286cb2", func := "loop.example/g03315/laws.FnExactSealText", spec := "fnExactSealText", apart := false }
def FnExactSealTextSaid : Prop := fnExactSealTextRow.holds Try.pinned (OpenSpec.ofChange fnExactSealTextSpec)

/-- ITS FALSE NEIGHBOUR: 'it returns false'. Refute it at one input. -/
def fnExactSealTextWrong : ChangeSpec := { name := "fnExactSealText", fn := fun _ => fun
  | [d] => { results := [.lit (.bool false)], args := [d] }
  | _ => none }
def FnExactSealTextWrongFalsely : Prop := fnExactSealTextRow.holds Try.pinned (OpenSpec.ofChange fnExactSealTextWrong)

/-- 'laws.FnExactOpenText': WHATEVER THE INPUT: true; the input reads as it did. -/
def fnExactOpenTextSpec : ChangeSpec := { name := "fnExactOpenText", fn := fun _ => fun
  | [d] => { results := [.lit (.bool true)], args := [d] }
  | _ => none }
def fnExactOpenTextRow : OpenClaim := { program := "ytegfbgjilgaijaa", sum := "9b95937b5a719975c9cf9b5ac55e95c748c3526dcd8bc8e9accf9ef024286cb2", func := "loop.example/g03315/laws.FnExactOpenText", spec := "fnExactOpenText", apart := false }
def FnExactOpenTextSaid : Prop := fnExactOpenTextRow.holds Try.pinned (OpenSpec.ofChange fnExactOpenTextSpec)

/-- ITS FALSE NEIGHBOUR: 'it returns false'. Refute it at one input. -/
def fnExactOpenTextWrong : ChangeSpec := { name := "fnExactOpenText", fn := fun _ => fun
  | [d] => { results := [.lit (.bool false)], args := [d] }
  | _ => none }
def FnExactOpenTextWrongFalsely : Prop := fnExactOpenTextRow.holds Try.pinned (OpenSpec.ofChange fnExactOpenTextWrong)

/-- 'laws.FnExactDecodeVarint': WHATEVER THE INPUT: true; the input reads as it did. -/
def fnExactDecodeVarintSpec : ChangeSpec := { name := "fnExactDecodeVarint", fn := fun _ => fun
  | [d1, d2] => { results := [.lit (.bool true)], args := [d1, d2] }
  | _ => none }
def fnExactDecodeVarintRow : OpenClaim := { program := "ytegfbgjilgaijaa", sum := "9b95937b5a719975c9cf9b5ac55e95c748c3526dcd8bc8e9accf9ef024286cb2", func := "loop.example/g03315/laws.FnExactDecodeVarint", spec := "fnExactDecodeVarint", apart := false }
def FnExactDecodeVarintSaid : Prop := fnExactDecodeVarintRow.holds Try.pinned (OpenSpec.ofChange fnExactDecodeVarintSpec)

/-- ITS FALSE NEIGHBOUR: 'it returns false'. Refute it at one input. -/
def fnExactDecodeVarintWrong : ChangeSpec := { name := "fnExactDecodeVarint", fn := fun _ => fun
  | [d1, d2] => { results := [.lit (.bool false)], args := [d1, d2] }
  | _ => none }
def FnExactDecodeVarintWrongFalsely : Prop := fnExactDecodeVarintRow.holds Try.pinned (OpenSpec.ofChange fnExactDecodeVarintWrong)

/-- 'laws.FnExactDecodeHex': WHATEVER THE INPUT: true; the input reads as it did. -/
def fnExactDecodeHexSpec : ChangeSpec := { name := "fnExactDecodeHex", fn := fun _ => fun
  | [d] => { results := [.lit (.bool true)], args := [d] }
  | _ => none }
def fnExactDecodeHexRow : OpenClaim := { program := "ytegfbgjilgaijaa", sum := "9b95937b5a719975c9cf9b5ac55e95c748c3526dcd8bc8e9accf9ef024286cb2", func := "loop.example/g03315/laws.FnExactDecodeHex", spec := "fnExactDecodeHex", apart := false }
def FnExactDecodeHexSaid : Prop := fnExactDecodeHexRow.holds Try.pinned (OpenSpec.ofChange fnExactDecodeHexSpec)

/-- ITS FALSE NEIGHBOUR: 'it returns false'. Refute it at one input. -/
def fnExactDecodeHexWrong : ChangeSpec := { name := "fnExactDecodeHex", fn := fun _ => fun
  | [d] => { results := [.lit (.bool false)], args := [d] }
  | _ => none }
def FnExactDecodeHexWrongFalsely : Prop := fnExactDecodeHexRow.holds Try.pinned (OpenSpec.ofChange fnExactDecodeHexWrong)

/-- 'laws.FnExactParseUint': WHATEVER THE INPUT: true; the input reads as it did. -/
def fnExactParseUintSpec : ChangeSpec := { name := "fnExactParseUint", fn := fun _ => fun
  | [d] => { results := [.lit (.bool true)], args := [d] }
  | _ => none }
def fnExactParseUintRow : OpenClaim := { program := "ytegfbgjilgaijaa", sum := "9b95937b5a719975c9cf9b5ac55e95c748c3526dcd8bc8e9accf9ef024286cb2", func := "loop.example/g03315/laws.FnExactParseUint", spec := "fnExactParseUint", apart := false }
def FnExactParseUintSaid : Prop := fnExactParseUintRow.holds Try.pinned (OpenSpec.ofChange fnExactParseUintSpec)

/-- ITS FALSE NEIGHBOUR: 'it returns false'. Refute it at one input. -/
def fnExactParseUintWrong : ChangeSpec := { name := "fnExactParseUint", fn := fun _ => fun
  | [d] => { results := [.lit (.bool false)], args := [d] }
  | _ => none }
def FnExactParseUintWrongFalsely : Prop := fnExactParseUintRow.holds Try.pinned (OpenSpec.ofChange fnExactParseUintWrong)

/-- 'laws.FnClamped': WHATEVER THE INPUT: true; the input reads as it did. -/
def fnClampedSpec : ChangeSpec := { name := "fnClamped", fn := fun _ => fun
  | [d] => { results := [.lit (.bool true)], args := [d] }
  | _ => none }
def fnClampedRow : OpenClaim := { program := "ytegfbgjilgaijaa", sum := "9b95937b5a719975c9cf9b5ac55e95c748c3526dcd8bc8e9accf9ef024286cb2", func := "loop.example/g03315/laws.FnClamped", spec := "fnClamped", apart := false }
def FnClampedSaid : Prop := fnClampedRow.holds Try.pinned (OpenSpec.ofChange fnClampedSpec)

/-- ITS FALSE NEIGHBOUR: 'it returns false'. Refute it at one input. -/
def fnClampedWrong : ChangeSpec := { name := "fnClamped", fn := fun _ => fun
  | [d] => { results := [.lit (.bool false)], args := [d] }
  | _ => none }
def FnClampedWrongFalsely : Prop := fnClampedRow.holds Try.pinned (OpenSpec.ofChange fnClampedWrong)

/-- 'laws.FnExactUnpackText': WHATEVER THE INPUT: true; the input reads as it did. -/
def fnExactUnpackTextSpec : ChangeSpec := { name := "fnExactUnpackText", fn := fun _ => fun
  | [d1, d2] => { results := [.lit (.bool true)], args := [d1, d2] }
  | _ => none }
def fnExactUnpackTextRow : OpenClaim := { program := "ytegfbgjilgaijaa", sum := "9b95937b5a719975c9cf9b5ac55e95c748c3526dcd8bc8e9accf9ef024286cb2", func := "loop.example/g03315/laws.FnExactUnpackText", spec := "fnExactUnpackText", apart := false }
def FnExactUnpackTextSaid : Prop := fnExactUnpackTextRow.holds Try.pinned (OpenSpec.ofChange fnExactUnpackTextSpec)

/-- ITS FALSE NEIGHBOUR: 'it returns false'. Refute it at one input. -/
def fnExactUnpackTextWrong : ChangeSpec := { name := "fnExactUnpackText", fn := fun _ => fun
  | [d1, d2] => { results := [.lit (.bool false)], args := [d1, d2] }
  | _ => none }
def FnExactUnpackTextWrongFalsely : Prop := fnExactUnpackTextRow.holds Try.pinned (OpenSpec.ofChange fnExactUnpackTextWrong)

/-- 'laws.FnExactPackZeros': WHATEVER THE INPUT: true; the input reads as it did. -/
def fnExactPackZerosSpec : ChangeSpec := { name := "fnExactPackZeros", fn := fun _ => fun
  | [d] => { results := [.lit (.bool true)], args := [d] }
  | _ => none }
def fnExactPackZerosRow : OpenClaim := { program := "ytegfbgjilgaijaa", sum := "9b95937b5a719975c9cf9b5ac55e95c748c3526dcd8bc8e9accf9ef024286cb2", func := "loop.example/g03315/laws.FnExactPackZeros", spec := "fnExactPackZeros", apart := false }
def FnExactPackZerosSaid : Prop := fnExactPackZerosRow.holds Try.pinned (OpenSpec.ofChange fnExactPackZerosSpec)

/-- ITS FALSE NEIGHBOUR: 'it returns false'. Refute it at one input. -/
def fnExactPackZerosWrong : ChangeSpec := { name := "fnExactPackZeros", fn := fun _ => fun
  | [d] => { results := [.lit (.bool false)], args := [d] }
  | _ => none }
def FnExactPackZerosWrongFalsely : Prop := fnExactPackZerosRow.holds Try.pinned (OpenSpec.ofChange fnExactPackZerosWrong)

/-- 'laws.FnExactPackInts': WHATEVER THE INPUT: true; the input reads as it did. -/
def fnExactPackIntsSpec : ChangeSpec := { name := "fnExactPackInts", fn := fun _ => fun
  | [d] => { results := [.lit (.bool true)], args := [d] }
  | _ => none }
def fnExactPackIntsRow : OpenClaim := { program := "ytegfbgjilgaijaa", sum := "9b95937b5a719975c9cf9b5ac55e95c748c3526dcd8bc8e9accf9ef024286cb2", func := "loop.example/g03315/laws.FnExactPackInts", spec := "fnExactPackInts", apart := false }
def FnExactPackIntsSaid : Prop := fnExactPackIntsRow.holds Try.pinned (OpenSpec.ofChange fnExactPackIntsSpec)

/-- ITS FALSE NEIGHBOUR: 'it returns false'. Refute it at one input. -/
def fnExactPackIntsWrong : ChangeSpec := { name := "fnExactPackInts", fn := fun _ => fun
  | [d] => { results := [.lit (.bool false)], args := [d] }
  | _ => none }
def FnExactPackIntsWrongFalsely : Prop := fnExactPackIntsRow.holds Try.pinned (OpenSpec.ofChange fnExactPackIntsWrong)

/-- 'laws.FnExactDeltaText': WHATEVER THE INPUT: true; the input reads as it did. -/
def fnExactDeltaTextSpec : ChangeSpec := { name := "fnExactDeltaText", fn := fun _ => fun
  | [d1, d2] => { results := [.lit (.bool true)], args := [d1, d2] }
  | _ => none }
def fnExactDeltaTextRow : OpenClaim := { program := "ytegfbgjilgaijaa", sum := "9b95937b5a719975c9cf9b5ac55e95c748c3526dcd8bc8e9accf9ef024286cb2", func := "loop.example/g03315/laws.FnExactDeltaText", spec := "fnExactDeltaText", apart := false }
def FnExactDeltaTextSaid : Prop := fnExactDeltaTextRow.holds Try.pinned (OpenSpec.ofChange fnExactDeltaTextSpec)

/-- ITS FALSE NEIGHBOUR: 'it returns false'. Refute it at one input. -/
def fnExactDeltaTextWrong : ChangeSpec := { name := "fnExactDeltaText", fn := fun _ => fun
  | [d1, d2] => { results := [.lit (.bool false)], args := [d1, d2] }
  | _ => none }
def FnExactDeltaTextWrongFalsely : Prop := fnExactDeltaTextRow.holds Try.pinned (OpenSpec.ofChange fnExactDeltaTextWrong)

/-- 'laws.FnExactSplitFields': WHATEVER THE INPUT: true; the input reads as it did. -/
def fnExactSplitFieldsSpec : ChangeSpec := { name := "fnExactSplitFields", fn := fun _ => fun
  | [d] => { results := [.lit (.bool true)], args := [d] }
  | _ => none }
def fnExactSplitFieldsRow : OpenClaim := { program := "ytegfbgjilgaijaa", sum := "9b95937b5a719975c9cf9b5ac55e95c748c3526dcd8bc8e9accf9ef024286cb2", func := "loop.example/g03315/laws.FnExactSplitFields", spec := "fnExactSplitFields", apart := false }
def FnExactSplitFieldsSaid : Prop := fnExactSplitFieldsRow.holds Try.pinned (OpenSpec.ofChange fnExactSplitFieldsSpec)

/-- ITS FALSE NEIGHBOUR: 'it returns false'. Refute it at one input. -/
def fnExactSplitFieldsWrong : ChangeSpec := { name := "fnExactSplitFields", fn := fun _ => fun
  | [d] => { results := [.lit (.bool false)], args := [d] }
  | _ => none }
def FnExactSplitFieldsWrongFalsely : Prop := fnExactSplitFieldsRow.holds Try.pinned (OpenSpec.ofChange fnExactSplitFieldsWrong)

/-- 'laws.FnSealed': WHATEVER THE INPUT: true; the input reads as it did. -/
def fnSealedSpec : ChangeSpec := { name := "fnSealed", fn := fun _ => fun
  | [d] => { results := [.lit (.bool true)], args := [d] }
  | _ => none }
def fnSealedRow : OpenClaim := { program := "ytegfbgjilgaijaa", sum := "9b95937b5a719975c9cf9b5ac55e95c748c3526dcd8bc8e9accf9ef024286cb2", func := "loop.example/g03315/laws.FnSealed", spec := "fnSealed", apart := false }
def FnSealedSaid : Prop := fnSealedRow.holds Try.pinned (OpenSpec.ofChange fnSealedSpec)

/-- ITS FALSE NEIGHBOUR: 'it returns false'. Refute it at one input. -/
def fnSealedWrong : ChangeSpec := { name := "fnSealed", fn := fun _ => fun
  | [d] => { results := [.lit (.bool false)], args := [d] }
  | _ => none }
def FnSealedWrongFalsely : Prop := fnSealedRow.holds Try.pinned (OpenSpec.ofChange fnSealedWrong)

/-- 'laws.FnNumbers': WHATEVER THE INPUT: true; the input reads as it did. -/
def fnNumbersSpec : ChangeSpec := { name := "fnNumbers", fn := fun _ => fun
  | [d] => { results := [.lit (.bool true)], args := [d] }
  | _ => none }
def fnNumbersRow : OpenClaim := { program := "ytegfbgjilgaijaa", sum := "9b95937b5a719975c9cf9b5ac55e95c748c3526dcd8bc8e9accf9ef024286cb2", func := "loop.example/g03315/laws.FnNumbers", spec := "fnNumbers", apart := false }
def FnNumbersSaid : Prop := fnNumbersRow.holds Try.pinned (OpenSpec.ofChange fnNumbersSpec)

/-- ITS FALSE NEIGHBOUR: 'it returns false'. Refute it at one input. -/
def fnNumbersWrong : ChangeSpec := { name := "fnNumbers", fn := fun _ => fun
  | [d] => { results := [.lit (.bool false)], args := [d] }
  | _ => none }
def FnNumbersWrongFalsely : Prop := fnNumbersRow.holds Try.pinned (OpenSpec.ofChange fnNumbersWrong)

/-- 'laws.FnExactUnpackInts': WHATEVER THE INPUT: true; the input reads as it did. -/
def fnExactUnpackIntsSpec : ChangeSpec := { name := "fnExactUnpackInts", fn := fun _ => fun
  | [d1, d2] => { results := [.lit (.bool true)], args := [d1, d2] }
  | _ => none }
def fnExactUnpackIntsRow : OpenClaim := { program := "ytegfbgjilgaijaa", sum := "9b95937b5a719975c9cf9b5ac55e95c748c3526dcd8bc8e9accf9ef024286cb2", func := "loop.example/g03315/laws.FnExactUnpackInts", spec := "fnExactUnpackInts", apart := false }
def FnExactUnpackIntsSaid : Prop := fnExactUnpackIntsRow.holds Try.pinned (OpenSpec.ofChange fnExactUnpackIntsSpec)

/-- ITS FALSE NEIGHBOUR: 'it returns false'. Refute it at one input. -/
def fnExactUnpackIntsWrong : ChangeSpec := { name := "fnExactUnpackInts", fn := fun _ => fun
  | [d1, d2] => { results := [.lit (.bool false)], args := [d1, d2] }
  | _ => none }
def FnExactUnpackIntsWrongFalsely : Prop := fnExactUnpackIntsRow.holds Try.pinned (OpenSpec.ofChange fnExactUnpackIntsWrong)

/-- 'laws.FnExactUnpackZeros': WHATEVER THE INPUT: true; the input reads as it did. -/
def fnExactUnpackZerosSpec : ChangeSpec := { name := "fnExactUnpackZeros", fn := fun _ => fun
  | [d] => { results := [.lit (.bool true)], args := [d] }
  | _ => none }
def fnExactUnpackZerosRow : OpenClaim := { program := "ytegfbgjilgaijaa", sum := "9b95937b5a719975c9cf9b5ac55e95c748c3526dcd8bc8e9accf9ef024286cb2", func := "loop.example/g03315/laws.FnExactUnpackZeros", spec := "fnExactUnpackZeros", apart := false }
def FnExactUnpackZerosSaid : Prop := fnExactUnpackZerosRow.holds Try.pinned (OpenSpec.ofChange fnExactUnpackZerosSpec)

/-- ITS FALSE NEIGHBOUR: 'it returns false'. Refute it at one input. -/
def fnExactUnpackZerosWrong : ChangeSpec := { name := "fnExactUnpackZeros", fn := fun _ => fun
  | [d] => { results := [.lit (.bool false)], args := [d] }
  | _ => none }
def FnExactUnpackZerosWrongFalsely : Prop := fnExactUnpackZerosRow.holds Try.pinned (OpenSpec.ofChange fnExactUnpackZerosWrong)

/-- 'laws.FnDeltas': WHATEVER THE INPUT: true; the input reads as it did. -/
def fnDeltasSpec : ChangeSpec := { name := "fnDeltas", fn := fun _ => fun
  | [d] => { results := [.lit (.bool true)], args := [d] }
  | _ => none }
def fnDeltasRow : OpenClaim := { program := "ytegfbgjilgaijaa", sum := "9b95937b5a719975c9cf9b5ac55e95c748c3526dcd8bc8e9accf9ef024286cb2", func := "loop.example/g03315/laws.FnDeltas", spec := "fnDeltas", apart := false }
def FnDeltasSaid : Prop := fnDeltasRow.holds Try.pinned (OpenSpec.ofChange fnDeltasSpec)

/-- ITS FALSE NEIGHBOUR: 'it returns false'. Refute it at one input. -/
def fnDeltasWrong : ChangeSpec := { name := "fnDeltas", fn := fun _ => fun
  | [d] => { results := [.lit (.bool false)], args := [d] }
  | _ => none }
def FnDeltasWrongFalsely : Prop := fnDeltasRow.holds Try.pinned (OpenSpec.ofChange fnDeltasWrong)

/-- 'laws.FnExactApplyDelta': WHATEVER THE INPUT: true; the input reads as it did. -/
def fnExactApplyDeltaSpec : ChangeSpec := { name := "fnExactApplyDelta", fn := fun _ => fun
  | [d1, d2] => { results := [.lit (.bool true)], args := [d1, d2] }
  | _ => none }
def fnExactApplyDeltaRow : OpenClaim := { program := "ytegfbgjilgaijaa", sum := "9b95937b5a719975c9cf9b5ac55e95c748c3526dcd8bc8e9accf9ef024286cb2", func := "loop.example/g03315/laws.FnExactApplyDelta", spec := "fnExactApplyDelta", apart := false }
def FnExactApplyDeltaSaid : Prop := fnExactApplyDeltaRow.holds Try.pinned (OpenSpec.ofChange fnExactApplyDeltaSpec)

/-- ITS FALSE NEIGHBOUR: 'it returns false'. Refute it at one input. -/
def fnExactApplyDeltaWrong : ChangeSpec := { name := "fnExactApplyDelta", fn := fun _ => fun
  | [d1, d2] => { results := [.lit (.bool false)], args := [d1, d2] }
  | _ => none }
def FnExactApplyDeltaWrongFalsely : Prop := fnExactApplyDeltaRow.holds Try.pinned (OpenSpec.ofChange fnExactApplyDeltaWrong)

/-- 'laws.FnExactScriptInput': WHATEVER THE INPUT: true; the input reads as it did. -/
def fnExactScriptInputSpec : ChangeSpec := { name := "fnExactScriptInput", fn := fun _ => fun
  | [d1, d2, d3] => { results := [.lit (.bool true)], args := [d1, d2, d3] }
  | _ => none }
def fnExactScriptInputRow : OpenClaim := { program := "ytegfbgjilgaijaa", sum := "9b95937b5a719975c9cf9b5ac55e95c748c3526dcd8bc8e9accf9ef024286cb2", func := "loop.example/g03315/laws.FnExactScriptInput", spec := "fnExactScriptInput", apart := false }
def FnExactScriptInputSaid : Prop := fnExactScriptInputRow.holds Try.pinned (OpenSpec.ofChange fnExactScriptInputSpec)

/-- ITS FALSE NEIGHBOUR: 'it returns false'. Refute it at one input. -/
def fnExactScriptInputWrong : ChangeSpec := { name := "fnExactScriptInput", fn := fun _ => fun
  | [d1, d2, d3] => { results := [.lit (.bool false)], args := [d1, d2, d3] }
  | _ => none }
def FnExactScriptInputWrongFalsely : Prop := fnExactScriptInputRow.holds Try.pinned (OpenSpec.ofChange fnExactScriptInputWrong)

/-- 'laws.FnExactTrackOk': WHATEVER THE INPUT: true; the input reads as it did. -/
def fnExactTrackOkSpec : ChangeSpec := { name := "fnExactTrackOk", fn := fun _ => fun
  | [d] => { results := [.lit (.bool true)], args := [d] }
  | _ => none }
def fnExactTrackOkRow : OpenClaim := { program := "ytegfbgjilgaijaa", sum := "9b95937b5a719975c9cf9b5ac55e95c748c3526dcd8bc8e9accf9ef024286cb2", func := "loop.example/g03315/laws.FnExactTrackOk", spec := "fnExactTrackOk", apart := false }
def FnExactTrackOkSaid : Prop := fnExactTrackOkRow.holds Try.pinned (OpenSpec.ofChange fnExactTrackOkSpec)

/-- ITS FALSE NEIGHBOUR: 'it returns false'. Refute it at one input. -/
def fnExactTrackOkWrong : ChangeSpec := { name := "fnExactTrackOk", fn := fun _ => fun
  | [d] => { results := [.lit (.bool false)], args := [d] }
  | _ => none }
def FnExactTrackOkWrongFalsely : Prop := fnExactTrackOkRow.holds Try.pinned (OpenSpec.ofChange fnExactTrackOkWrong)

/-- 'laws.FnExactSameTrack': WHATEVER THE INPUT: true; the input reads as it did. -/
def fnExactSameTrackSpec : ChangeSpec := { name := "fnExactSameTrack", fn := fun _ => fun
  | [d1, d2] => { results := [.lit (.bool true)], args := [d1, d2] }
  | _ => none }
def fnExactSameTrackRow : OpenClaim := { program := "ytegfbgjilgaijaa", sum := "9b95937b5a719975c9cf9b5ac55e95c748c3526dcd8bc8e9accf9ef024286cb2", func := "loop.example/g03315/laws.FnExactSameTrack", spec := "fnExactSameTrack", apart := false }
def FnExactSameTrackSaid : Prop := fnExactSameTrackRow.holds Try.pinned (OpenSpec.ofChange fnExactSameTrackSpec)

/-- ITS FALSE NEIGHBOUR: 'it returns false'. Refute it at one input. -/
def fnExactSameTrackWrong : ChangeSpec := { name := "fnExactSameTrack", fn := fun _ => fun
  | [d1, d2] => { results := [.lit (.bool false)], args := [d1, d2] }
  | _ => none }
def FnExactSameTrackWrongFalsely : Prop := fnExactSameTrackRow.holds Try.pinned (OpenSpec.ofChange fnExactSameTrackWrong)

/-- 'laws.FnExactPackTrack': WHATEVER THE INPUT: true; the input reads as it did. -/
def fnExactPackTrackSpec : ChangeSpec := { name := "fnExactPackTrack", fn := fun _ => fun
  | [d] => { results := [.lit (.bool true)], args := [d] }
  | _ => none }
def fnExactPackTrackRow : OpenClaim := { program := "ytegfbgjilgaijaa", sum := "9b95937b5a719975c9cf9b5ac55e95c748c3526dcd8bc8e9accf9ef024286cb2", func := "loop.example/g03315/laws.FnExactPackTrack", spec := "fnExactPackTrack", apart := false }
def FnExactPackTrackSaid : Prop := fnExactPackTrackRow.holds Try.pinned (OpenSpec.ofChange fnExactPackTrackSpec)

/-- ITS FALSE NEIGHBOUR: 'it returns false'. Refute it at one input. -/
def fnExactPackTrackWrong : ChangeSpec := { name := "fnExactPackTrack", fn := fun _ => fun
  | [d] => { results := [.lit (.bool false)], args := [d] }
  | _ => none }
def FnExactPackTrackWrongFalsely : Prop := fnExactPackTrackRow.holds Try.pinned (OpenSpec.ofChange fnExactPackTrackWrong)

/- THE SECOND FORM. 'bulk': how many values and letters a reading holds, each counted each time it is reached (what is shared counts as often as it is met; a slice's spare places count too). A statement '..UptoSaid' is the law's where the arguments, and the package variables that the reading takes, are together of bulk at most 1048576: NARROWER than '..Said'. Prove '..Said' where nothing that the law and all that it calls make is longer than what came in: it says more and counts as full. Else prove '..UptoSaid'. A law counts once. -/
mutual
def uptoBulk {H : Type} : DataW H → Nat
  | .lit (.string bytes) => bytes.length + 1
  | .lit _ => 1
  | .nil => 1
  | .ptr d => uptoBulk d + 1
  | .slice elems spare => uptoBulkAll elems + uptoBulkAll spare + 1
  | .agg parts => uptoBulkAll parts + 1
  | .iface _ d => uptoBulk d + 1
  | .map entries => uptoBulkEntries entries + 1
  | .held _ => 1
def uptoBulkAll {H : Type} : List (DataW H) → Nat
  | [] => 0
  | d :: r => uptoBulk d + uptoBulkAll r
def uptoBulkEntries {H : Type} : List (Lit × DataW H) → Nat
  | [] => 0
  | x :: r => uptoBulkEntry x + uptoBulkEntries r
def uptoBulkEntry {H : Type} : Lit × DataW H → Nat
  | (.string bytes, d) => bytes.length + uptoBulk d + 1
  | (_, d) => uptoBulk d + 1
 end
def uptoSmall : (H : Type) → List (DataW H) → Bool := fun _ ds => decide (uptoBulkAll ds ≤ 1048576)
def OpenSpec.upto (s : _root_.Go.ChangeSpec) : _root_.Go.OpenSpec := { _root_.Go.OpenSpec.ofChange s with cond := some uptoSmall }

/-- 'laws.FnExactEncodeVarint', WHERE WHAT IT READS IS OF BULK AT MOST 1048576: true; the input reads as it did. -/
def fnExactEncodeVarintUptoRow : OpenClaim := { program := "ytegfbgjilgaijaa", sum := "9b95937b5a719975c9cf9b5ac55e95c748c3526dcd8bc8e9accf9ef024286cb2", func := "loop.example/g03315/laws.FnExactEncodeVarint", spec := "fnExactEncodeVarint", apart := false, narrowed := true }
def FnExactEncodeVarintUptoSaid : Prop := fnExactEncodeVarintUptoRow.holds Try.pinned (OpenSpec.upto fnExactEncodeVarintSpec)

/-- 'laws.FnExactEncodeHex', WHERE WHAT IT READS IS OF BULK AT MOST 1048576: true; the input reads as it did. -/
def fnExactEncodeHexUptoRow : OpenClaim := { program := "ytegfbgjilgaijaa", sum := "9b95937b5a719975c9cf9b5ac55e95c748c3526dcd8bc8e9accf9ef024286cb2", func := "loop.example/g03315/laws.FnExactEncodeHex", spec := "fnExactEncodeHex", apart := false, narrowed := true }
def FnExactEncodeHexUptoSaid : Prop := fnExactEncodeHexUptoRow.holds Try.pinned (OpenSpec.upto fnExactEncodeHexSpec)

/-- 'laws.FnExactRandomBelow', WHERE WHAT IT READS IS OF BULK AT MOST 1048576: true; the input reads as it did. -/
def fnExactRandomBelowUptoRow : OpenClaim := { program := "ytegfbgjilgaijaa", sum := "9b95937b5a719975c9cf9b5ac55e95c748c3526dcd8bc8e9accf9ef024286cb2", func := "loop.example/g03315/laws.FnExactRandomBelow", spec := "fnExactRandomBelow", apart := false, narrowed := true }
def FnExactRandomBelowUptoSaid : Prop := fnExactRandomBelowUptoRow.holds Try.pinned (OpenSpec.upto fnExactRandomBelowSpec)

/-- 'laws.FnRandoms', WHERE WHAT IT READS IS OF BULK AT MOST 1048576: true; the input reads as it did. -/
def fnRandomsUptoRow : OpenClaim := { program := "ytegfbgjilgaijaa", sum := "9b95937b5a719975c9cf9b5ac55e95c748c3526dcd8bc8e9accf9ef024286cb2", func := "loop.example/g03315/laws.FnRandoms", spec := "fnRandoms", apart := false, narrowed := true }
def FnRandomsUptoSaid : Prop := fnRandomsUptoRow.holds Try.pinned (OpenSpec.upto fnRandomsSpec)

/-- 'laws.FnExactPackText', WHERE WHAT IT READS IS OF BULK AT MOST 1048576: true; the input reads as it did. -/
def fnExactPackTextUptoRow : OpenClaim := { program := "ytegfbgjilgaijaa", sum := "9b95937b5a719975c9cf9b5ac55e95c748c3526dcd8bc8e9accf9ef024286cb2", func := "loop.example/g03315/laws.FnExactPackText", spec := "fnExactPackText", apart := false, narrowed := true }
def FnExactPackTextUptoSaid : Prop := fnExactPackTextUptoRow.holds Try.pinned (OpenSpec.upto fnExactPackTextSpec)

/-- 'laws.FnExactSealText', WHERE WHAT IT READS IS OF BULK AT MOST 1048576: true; the input reads as it did. -/
def fnExactSealTextUptoRow : OpenClaim := { program := "ytegfbgjilgaijaa", sum := "9b95937b5a719975c9cf9b5ac55e95c748c3526dcd8bc8e9accf9ef024286cb2", func := "loop.example/g03315/laws.FnExactSealText", spec := "fnExactSealText", apart := false, narrowed := true }
def FnExactSealTextUptoSaid : Prop := fnExactSealTextUptoRow.holds Try.pinned (OpenSpec.upto fnExactSealTextSpec)

/-- 'laws.FnExactOpenText', WHERE WHAT IT READS IS OF BULK AT MOST 1048576: true; the input reads as it did. -/
def fnExactOpenTextUptoRow : OpenClaim := { program := "ytegfbgjilgaijaa", sum := "9b95937b5a719975c9cf9b5ac55e95c748c3526dcd8bc8e9accf9ef024286cb2", func := "loop.example/g03315/laws.FnExactOpenText", spec := "fnExactOpenText", apart := false, narrowed := true }
def FnExactOpenTextUptoSaid : Prop := fnExactOpenTextUptoRow.holds Try.pinned (OpenSpec.upto fnExactOpenTextSpec)

/-- 'laws.FnExactDecodeVarint', WHERE WHAT IT READS IS OF BULK AT MOST 1048576: true; the input reads as it did. -/
def fnExactDecodeVarintUptoRow : OpenClaim := { program := "ytegfbgjilgaijaa", sum := "9b95937b5a719975c9cf9b5ac55e95c748c3526dcd8bc8e9accf9ef024286cb2", func := "loop.example/g03315/laws.FnExactDecodeVarint", spec := "fnExactDecodeVarint", apart := false, narrowed := true }
def FnExactDecodeVarintUptoSaid : Prop := fnExactDecodeVarintUptoRow.holds Try.pinned (OpenSpec.upto fnExactDecodeVarintSpec)

/-- 'laws.FnExactDecodeHex', WHERE WHAT IT READS IS OF BULK AT MOST 1048576: true; the input reads as it did. -/
def fnExactDecodeHexUptoRow : OpenClaim := { program := "ytegfbgjilgaijaa", sum := "9b95937b5a719975c9cf9b5ac55e95c748c3526dcd8bc8e9accf9ef024286cb2", func := "loop.example/g03315/laws.FnExactDecodeHex", spec := "fnExactDecodeHex", apart := false, narrowed := true }
def FnExactDecodeHexUptoSaid : Prop := fnExactDecodeHexUptoRow.holds Try.pinned (OpenSpec.upto fnExactDecodeHexSpec)

/-- 'laws.FnExactParseUint', WHERE WHAT IT READS IS OF BULK AT MOST 1048576: true; the input reads as it did. -/
def fnExactParseUintUptoRow : OpenClaim := { program := "ytegfbgjilgaijaa", sum := "9b95937b5a719975c9cf9b5ac55e95c748c3526dcd8bc8e9accf9ef024286cb2", func := "loop.example/g03315/laws.FnExactParseUint", spec := "fnExactParseUint", apart := false, narrowed := true }
def FnExactParseUintUptoSaid : Prop := fnExactParseUintUptoRow.holds Try.pinned (OpenSpec.upto fnExactParseUintSpec)

/-- 'laws.FnClamped', WHERE WHAT IT READS IS OF BULK AT MOST 1048576: true; the input reads as it did. -/
def fnClampedUptoRow : OpenClaim := { program := "ytegfbgjilgaijaa", sum := "9b95937b5a719975c9cf9b5ac55e95c748c3526dcd8bc8e9accf9ef024286cb2", func := "loop.example/g03315/laws.FnClamped", spec := "fnClamped", apart := false, narrowed := true }
def FnClampedUptoSaid : Prop := fnClampedUptoRow.holds Try.pinned (OpenSpec.upto fnClampedSpec)

/-- 'laws.FnExactUnpackText', WHERE WHAT IT READS IS OF BULK AT MOST 1048576: true; the input reads as it did. -/
def fnExactUnpackTextUptoRow : OpenClaim := { program := "ytegfbgjilgaijaa", sum := "9b95937b5a719975c9cf9b5ac55e95c748c3526dcd8bc8e9accf9ef024286cb2", func := "loop.example/g03315/laws.FnExactUnpackText", spec := "fnExactUnpackText", apart := false, narrowed := true }
def FnExactUnpackTextUptoSaid : Prop := fnExactUnpackTextUptoRow.holds Try.pinned (OpenSpec.upto fnExactUnpackTextSpec)

/-- 'laws.FnExactPackZeros', WHERE WHAT IT READS IS OF BULK AT MOST 1048576: true; the input reads as it did. -/
def fnExactPackZerosUptoRow : OpenClaim := { program := "ytegfbgjilgaijaa", sum := "9b95937b5a719975c9cf9b5ac55e95c748c3526dcd8bc8e9accf9ef024286cb2", func := "loop.example/g03315/laws.FnExactPackZeros", spec := "fnExactPackZeros", apart := false, narrowed := true }
def FnExactPackZerosUptoSaid : Prop := fnExactPackZerosUptoRow.holds Try.pinned (OpenSpec.upto fnExactPackZerosSpec)

/-- 'laws.FnExactPackInts', WHERE WHAT IT READS IS OF BULK AT MOST 1048576: true; the input reads as it did. -/
def fnExactPackIntsUptoRow : OpenClaim := { program := "ytegfbgjilgaijaa", sum := "9b95937b5a719975c9cf9b5ac55e95c748c3526dcd8bc8e9accf9ef024286cb2", func := "loop.example/g03315/laws.FnExactPackInts", spec := "fnExactPackInts", apart := false, narrowed := true }
def FnExactPackIntsUptoSaid : Prop := fnExactPackIntsUptoRow.holds Try.pinned (OpenSpec.upto fnExactPackIntsSpec)

/-- 'laws.FnExactDeltaText', WHERE WHAT IT READS IS OF BULK AT MOST 1048576: true; the input reads as it did. -/
def fnExactDeltaTextUptoRow : OpenClaim := { program := "ytegfbgjilgaijaa", sum := "9b95937b5a719975c9cf9b5ac55e95c748c3526dcd8bc8e9accf9ef024286cb2", func := "loop.example/g03315/laws.FnExactDeltaText", spec := "fnExactDeltaText", apart := false, narrowed := true }
def FnExactDeltaTextUptoSaid : Prop := fnExactDeltaTextUptoRow.holds Try.pinned (OpenSpec.upto fnExactDeltaTextSpec)

/-- 'laws.FnExactSplitFields', WHERE WHAT IT READS IS OF BULK AT MOST 1048576: true; the input reads as it did. -/
def fnExactSplitFieldsUptoRow : OpenClaim := { program := "ytegfbgjilgaijaa", sum := "9b95937b5a719975c9cf9b5ac55e95c748c3526dcd8bc8e9accf9ef024286cb2", func := "loop.example/g03315/laws.FnExactSplitFields", spec := "fnExactSplitFields", apart := false, narrowed := true }
def FnExactSplitFieldsUptoSaid : Prop := fnExactSplitFieldsUptoRow.holds Try.pinned (OpenSpec.upto fnExactSplitFieldsSpec)

/-- 'laws.FnSealed', WHERE WHAT IT READS IS OF BULK AT MOST 1048576: true; the input reads as it did. -/
def fnSealedUptoRow : OpenClaim := { program := "ytegfbgjilgaijaa", sum := "9b95937b5a719975c9cf9b5ac55e95c748c3526dcd8bc8e9accf9ef024286cb2", func := "loop.example/g03315/laws.FnSealed", spec := "fnSealed", apart := false, narrowed := true }
def FnSealedUptoSaid : Prop := fnSealedUptoRow.holds Try.pinned (OpenSpec.upto fnSealedSpec)

/-- 'laws.FnNumbers', WHERE WHAT IT READS IS OF BULK AT MOST 1048576: true; the input reads as it did. -/
def fnNumbersUptoRow : OpenClaim := { program := "ytegfbgjilgaijaa", sum := "9b95937b5a719975c9cf9b5ac55e95c748c3526dcd8bc8e9accf9ef024286cb2", func := "loop.example/g03315/laws.FnNumbers", spec := "fnNumbers", apart := false, narrowed := true }
def FnNumbersUptoSaid : Prop := fnNumbersUptoRow.holds Try.pinned (OpenSpec.upto fnNumbersSpec)

/-- 'laws.FnExactUnpackInts', WHERE WHAT IT READS IS OF BULK AT MOST 1048576: true; the input reads as it did. -/
def fnExactUnpackIntsUptoRow : OpenClaim := { program := "ytegfbgjilgaijaa", sum := "9b95937b5a719975c9cf9b5ac55e95c748c3526dcd8bc8e9accf9ef024286cb2", func := "loop.example/g03315/laws.FnExactUnpackInts", spec := "fnExactUnpackInts", apart := false, narrowed := true }
def FnExactUnpackIntsUptoSaid : Prop := fnExactUnpackIntsUptoRow.holds Try.pinned (OpenSpec.upto fnExactUnpackIntsSpec)

/-- 'laws.FnExactUnpackZeros', WHERE WHAT IT READS IS OF BULK AT MOST 1048576: true; the input reads as it did. -/
def fnExactUnpackZerosUptoRow : OpenClaim := { program := "ytegfbgjilgaijaa", sum := "9b95937b5a719975c9cf9b5ac55e95c748c3526dcd8bc8e9accf9ef024286cb2", func := "loop.example/g03315/laws.FnExactUnpackZeros", spec := "fnExactUnpackZeros", apart := false, narrowed := true }
def FnExactUnpackZerosUptoSaid : Prop := fnExactUnpackZerosUptoRow.holds Try.pinned (OpenSpec.upto fnExactUnpackZerosSpec)

/-- 'laws.FnDeltas', WHERE WHAT IT READS IS OF BULK AT MOST 1048576: true; the input reads as it did. -/
def fnDeltasUptoRow : OpenClaim := { program := "ytegfbgjilgaijaa", sum := "9b95937b5a719975c9cf9b5ac55e95c748c3526dcd8bc8e9accf9ef024286cb2", func := "loop.example/g03315/laws.FnDeltas", spec := "fnDeltas", apart := false, narrowed := true }
def FnDeltasUptoSaid : Prop := fnDeltasUptoRow.holds Try.pinned (OpenSpec.upto fnDeltasSpec)

/-- 'laws.FnExactApplyDelta', WHERE WHAT IT READS IS OF BULK AT MOST 1048576: true; the input reads as it did. -/
def fnExactApplyDeltaUptoRow : OpenClaim := { program := "ytegfbgjilgaijaa", sum := "9b95937b5a719975c9cf9b5ac55e95c748c3526dcd8bc8e9accf9ef024286cb2", func := "loop.example/g03315/laws.FnExactApplyDelta", spec := "fnExactApplyDelta", apart := false, narrowed := true }
def FnExactApplyDeltaUptoSaid : Prop := fnExactApplyDeltaUptoRow.holds Try.pinned (OpenSpec.upto fnExactApplyDeltaSpec)

/-- 'laws.FnExactScriptInput', WHERE WHAT IT READS IS OF BULK AT MOST 1048576: true; the input reads as it did. -/
def fnExactScriptInputUptoRow : OpenClaim := { program := "ytegfbgjilgaijaa", sum := "9b95937b5a719975c9cf9b5ac55e95c748c3526dcd8bc8e9accf9ef024286cb2", func := "loop.example/g03315/laws.FnExactScriptInput", spec := "fnExactScriptInput", apart := false, narrowed := true }
def FnExactScriptInputUptoSaid : Prop := fnExactScriptInputUptoRow.holds Try.pinned (OpenSpec.upto fnExactScriptInputSpec)

/-- 'laws.FnExactTrackOk', WHERE WHAT IT READS IS OF BULK AT MOST 1048576: true; the input reads as it did. -/
def fnExactTrackOkUptoRow : OpenClaim := { program := "ytegfbgjilgaijaa", sum := "9b95937b5a719975c9cf9b5ac55e95c748c3526dcd8bc8e9accf9ef024286cb2", func := "loop.example/g03315/laws.FnExactTrackOk", spec := "fnExactTrackOk", apart := false, narrowed := true }
def FnExactTrackOkUptoSaid : Prop := fnExactTrackOkUptoRow.holds Try.pinned (OpenSpec.upto fnExactTrackOkSpec)

/-- 'laws.FnExactSameTrack', WHERE WHAT IT READS IS OF BULK AT MOST 1048576: true; the input reads as it did. -/
def fnExactSameTrackUptoRow : OpenClaim := { program := "ytegfbgjilgaijaa", sum := "9b95937b5a719975c9cf9b5ac55e95c748c3526dcd8bc8e9accf9ef024286cb2", func := "loop.example/g03315/laws.FnExactSameTrack", spec := "fnExactSameTrack", apart := false, narrowed := true }
def FnExactSameTrackUptoSaid : Prop := fnExactSameTrackUptoRow.holds Try.pinned (OpenSpec.upto fnExactSameTrackSpec)

/-- 'laws.FnExactPackTrack', WHERE WHAT IT READS IS OF BULK AT MOST 1048576: true; the input reads as it did. -/
def fnExactPackTrackUptoRow : OpenClaim := { program := "ytegfbgjilgaijaa", sum := "9b95937b5a719975c9cf9b5ac55e95c748c3526dcd8bc8e9accf9ef024286cb2", func := "loop.example/g03315/laws.FnExactPackTrack", spec := "fnExactPackTrack", apart := false, narrowed := true }
def FnExactPackTrackUptoSaid : Prop := fnExactPackTrackUptoRow.holds Try.pinned (OpenSpec.upto fnExactPackTrackSpec)

end Rows
end Go.Proofs.Ytegfbgjilgaijaa
