/-
  DERIVED. GIVEN WITH THE SEED: THE CARDS: each row of YtlpononcpocmoaaDoorRows.lean that lists a variable, with what it lists TIED to the program's text (the seventh form; the later family's looks); each row that meets fmt, with fmt's text TOLD by the authors' own Lean function (tested against real Go, not proved from fmt's source: count such statements apart). THE CARD IS WHAT COUNTS. Prove the row's statement (the work); the ties are given (YtlpononcpocmoaaDoorTie.lean); close each card by the builder's one call (the guide's Derived/Test/ToyasCard.lean, 'card_holds'). Laid BY PROGRAM, IN A SANDBOX (cutbox-door.mjs). By AI agents, Wed Nov 11 2026. No macro, syntax, notation, axiom, sorry.
-/
import Derived.Test.YtlpononcpocmoaaDoorRows
import GoSem.ClaimSeven
namespace Go.Proofs.YtlpononcpocmoaaDoor
namespace Rows

/-- THE TIED CARD OF 'laws.FnExactStainText'. -/
def fnExactStainTextCard : Claim7 := { stood := { row := fnExactStainTextRow, standIns := [], harness := (true, "8c8f0ecda08d8c4027365924ef8d59024f3adedc4ff92e5d0c9a303c168b841a"), looks := false }, kinds := [], alts := [], laidByText := true, laidKinds := [.data, .data, .data], laidTests := true, laidLooks := .later }
def FnExactStainTextCardSaid : Prop := Claim7.holds Tryd.pinned (.plain (OpenSpec.ofChange fnExactStainTextSpec)) fnExactStainTextCard

/-- THE TIED CARD OF 'laws.FnStains'. -/
def fnStainsCard : Claim7 := { stood := { row := fnStainsRow, standIns := [], harness := (true, "8c8f0ecda08d8c4027365924ef8d59024f3adedc4ff92e5d0c9a303c168b841a"), looks := false }, kinds := [], alts := [], laidByText := true, laidKinds := [.data, .data, .data], laidTests := true, laidLooks := .later }
def FnStainsCardSaid : Prop := Claim7.holds Tryd.pinned (.plain (OpenSpec.ofChange fnStainsSpec)) fnStainsCard

/-- THE SECOND FORM's CARD OF 'laws.FnExactStainText'. -/
def fnExactStainTextUptoCard : Claim7 := { stood := { row := fnExactStainTextUptoRow, standIns := [], harness := (true, "8c8f0ecda08d8c4027365924ef8d59024f3adedc4ff92e5d0c9a303c168b841a"), looks := false }, kinds := [], alts := [], laidByText := true, laidKinds := [.data, .data, .data], laidTests := true, laidLooks := .later }
def FnExactStainTextUptoCardSaid : Prop := Claim7.holds Tryd.pinned (.plain (OpenSpec.upto fnExactStainTextSpec)) fnExactStainTextUptoCard

/-- THE SECOND FORM's CARD OF 'laws.FnStains'. -/
def fnStainsUptoCard : Claim7 := { stood := { row := fnStainsUptoRow, standIns := [], harness := (true, "8c8f0ecda08d8c4027365924ef8d59024f3adedc4ff92e5d0c9a303c168b841a"), looks := false }, kinds := [], alts := [], laidByText := true, laidKinds := [.data, .data, .data], laidTests := true, laidLooks := .later }
def FnStainsUptoCardSaid : Prop := Claim7.holds Tryd.pinned (.plain (OpenSpec.upto fnStainsSpec)) fnStainsUptoCard
end Rows
end Go.Proofs.YtlpononcpocmoaaDoor
