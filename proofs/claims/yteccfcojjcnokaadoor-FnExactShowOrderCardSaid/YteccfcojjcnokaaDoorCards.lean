/-
  DERIVED. GIVEN WITH THE SEED: THE CARDS: each row of YteccfcojjcnokaaDoorRows.lean that lists a variable, with what it lists TIED to the program's text (the seventh form; the later family's looks); each row that meets fmt, with fmt's text TOLD by the authors' own Lean function (tested against real Go, not proved from fmt's source: count such statements apart). THE CARD IS WHAT COUNTS. Prove the row's statement (the work); the ties are given (YteccfcojjcnokaaDoorTie.lean); close each card by the builder's one call (the guide's Derived/Test/ToyasCard.lean, 'card_holds'). Laid BY PROGRAM, IN A SANDBOX (cutbox-door.mjs). By AI agents, Wed Nov 11 2026. No macro, syntax, notation, axiom, sorry.
-/
import Derived.Test.YteccfcojjcnokaaDoorRows
import GoSem.ClaimSeven
namespace Go.Proofs.YteccfcojjcnokaaDoor
namespace Rows

/-- THE TIED CARD OF 'laws.FnExactShowOrder'. -/
def fnExactShowOrderCard : Claim7 := { stood := { row := fnExactShowOrderRow, standIns := [], harness := (true, "8bbb69af29fcb2a04e03f60d3600f0d2e46c91ff746de4b165266b6b2df7a4c6"), looks := true }, kinds := [], alts := [], laidByText := true, laidKinds := [.data, .data, .data], laidTests := true, laidLooks := .later }
def FnExactShowOrderCardSaid : Prop := Claim7.holds Tryd.pinned (.plain (OpenSpec.ofChange fnExactShowOrderSpec)) fnExactShowOrderCard

/-- THE TIED CARD OF 'laws.FnExactReadOrder'. -/
def fnExactReadOrderCard : Claim7 := { stood := { row := fnExactReadOrderRow, standIns := [], harness := (true, "8bbb69af29fcb2a04e03f60d3600f0d2e46c91ff746de4b165266b6b2df7a4c6"), looks := true }, kinds := [], alts := [], laidByText := true, laidKinds := [.data, .data, .data, .data, .sentinel, .sentinel, .pinned], laidTests := true, laidLooks := .later }
def FnExactReadOrderCardSaid : Prop := Claim7.holds Tryd.pinned (.plain (OpenSpec.ofChange fnExactReadOrderSpec)) fnExactReadOrderCard

/-- THE SECOND FORM's CARD OF 'laws.FnExactShowOrder'. -/
def fnExactShowOrderUptoCard : Claim7 := { stood := { row := fnExactShowOrderUptoRow, standIns := [], harness := (true, "8bbb69af29fcb2a04e03f60d3600f0d2e46c91ff746de4b165266b6b2df7a4c6"), looks := true }, kinds := [], alts := [], laidByText := true, laidKinds := [.data, .data, .data], laidTests := true, laidLooks := .later }
def FnExactShowOrderUptoCardSaid : Prop := Claim7.holds Tryd.pinned (.plain (OpenSpec.upto fnExactShowOrderSpec)) fnExactShowOrderUptoCard

/-- THE SECOND FORM's CARD OF 'laws.FnExactReadOrder'. -/
def fnExactReadOrderUptoCard : Claim7 := { stood := { row := fnExactReadOrderUptoRow, standIns := [], harness := (true, "8bbb69af29fcb2a04e03f60d3600f0d2e46c91ff746de4b165266b6b2df7a4c6"), looks := true }, kinds := [], alts := [], laidByText := true, laidKinds := [.data, .data, .data, .data, .sentinel, .sentinel, .pinned], laidTests := true, laidLooks := .later }
def FnExactReadOrderUptoCardSaid : Prop := Claim7.holds Tryd.pinned (.plain (OpenSpec.upto fnExactReadOrderSpec)) fnExactReadOrderUptoCard
end Rows
end Go.Proofs.YteccfcojjcnokaaDoor
