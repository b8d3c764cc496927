/-
  DERIVED. GIVEN WITH THE SEED: THE CARDS: each row of YtmnddbgblhmlbaaDoorRows.lean that lists a variable, with what it lists TIED to the program's text (the seventh form; the later family's looks); each row that meets fmt, with fmt's text TOLD by the authors' own Lean function (tested against real Go, not proved from fmt's source: count such statements apart). THE CARD IS WHAT COUNTS. Prove the row's statement (the work); the ties are given (YtmnddbgblhmlbaaDoorTie.lean); close each card by the builder's one call (the guide's Derived/Test/ToyasCard.lean, 'card_holds'). Laid BY PROGRAM, IN A SANDBOX (cutbox-door.mjs). By AI agents, Wed Nov 11 2026. No macro, syntax, notation, axiom, sorry.
-/
import Derived.Test.YtmnddbgblhmlbaaDoorRows
import GoSem.ClaimSeven
namespace Go.Proofs.YtmnddbgblhmlbaaDoor
namespace Rows

/-- THE TIED CARD OF 'laws.FnExactFormatInt'. -/
def fnExactFormatIntCard : Claim7 := { stood := { row := fnExactFormatIntRow, standIns := [], harness := (true, "7dde9fdd5fc1133baac09baa9ba99da55e3f1be5bea87deb44111995e334d1ee"), looks := false }, kinds := [], alts := [], laidByText := true, laidKinds := [.data, .data, .data], laidTests := true, laidLooks := .later }
def FnExactFormatIntCardSaid : Prop := Claim7.holds Tryd.pinned (.plain (OpenSpec.ofChange fnExactFormatIntSpec)) fnExactFormatIntCard

/-- THE TIED CARD OF 'laws.FnHexText'. -/
def fnHexTextCard : Claim7 := { stood := { row := fnHexTextRow, standIns := [], harness := (true, "7dde9fdd5fc1133baac09baa9ba99da55e3f1be5bea87deb44111995e334d1ee"), looks := false }, kinds := [], alts := [], laidByText := true, laidKinds := [.data, .data, .data], laidTests := true, laidLooks := .later }
def FnHexTextCardSaid : Prop := Claim7.holds Tryd.pinned (.plain (OpenSpec.ofChange fnHexTextSpec)) fnHexTextCard

/-- THE TIED CARD OF 'laws.FnFieldsAgain'. -/
def fnFieldsAgainCard : Claim7 := { stood := { row := fnFieldsAgainRow, standIns := [], harness := (true, "7dde9fdd5fc1133baac09baa9ba99da55e3f1be5bea87deb44111995e334d1ee"), looks := false }, kinds := [], alts := [], laidByText := true, laidKinds := [.data, .data, .data], laidTests := true, laidLooks := .later }
def FnFieldsAgainCardSaid : Prop := Claim7.holds Tryd.pinned (.plain (OpenSpec.ofChange fnFieldsAgainSpec)) fnFieldsAgainCard

/-- THE SECOND FORM's CARD OF 'laws.FnExactFormatInt'. -/
def fnExactFormatIntUptoCard : Claim7 := { stood := { row := fnExactFormatIntUptoRow, standIns := [], harness := (true, "7dde9fdd5fc1133baac09baa9ba99da55e3f1be5bea87deb44111995e334d1ee"), looks := false }, kinds := [], alts := [], laidByText := true, laidKinds := [.data, .data, .data], laidTests := true, laidLooks := .later }
def FnExactFormatIntUptoCardSaid : Prop := Claim7.holds Tryd.pinned (.plain (OpenSpec.upto fnExactFormatIntSpec)) fnExactFormatIntUptoCard

/-- THE SECOND FORM's CARD OF 'laws.FnHexText'. -/
def fnHexTextUptoCard : Claim7 := { stood := { row := fnHexTextUptoRow, standIns := [], harness := (true, "7dde9fdd5fc1133baac09baa9ba99da55e3f1be5bea87deb44111995e334d1ee"), looks := false }, kinds := [], alts := [], laidByText := true, laidKinds := [.data, .data, .data], laidTests := true, laidLooks := .later }
def FnHexTextUptoCardSaid : Prop := Claim7.holds Tryd.pinned (.plain (OpenSpec.upto fnHexTextSpec)) fnHexTextUptoCard

/-- THE SECOND FORM's CARD OF 'laws.FnFieldsAgain'. -/
def fnFieldsAgainUptoCard : Claim7 := { stood := { row := fnFieldsAgainUptoRow, standIns := [], harness := (true, "7dde9fdd5fc1133baac09baa9ba99da55e3f1be5bea87deb44111995e334d1ee"), looks := false }, kinds := [], alts := [], laidByText := true, laidKinds := [.data, .data, .data], laidTests := true, laidLooks := .later }
def FnFieldsAgainUptoCardSaid : Prop := Claim7.holds Tryd.pinned (.plain (OpenSpec.upto fnFieldsAgainSpec)) fnFieldsAgainUptoCard
end Rows
end Go.Proofs.YtmnddbgblhmlbaaDoor
