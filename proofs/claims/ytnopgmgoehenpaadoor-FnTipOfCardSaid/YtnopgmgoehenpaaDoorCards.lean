/-
  DERIVED. GIVEN WITH THE SEED: THE CARDS: each row of YtnopgmgoehenpaaDoorRows.lean that lists a variable, with what it lists TIED to the program's text (the seventh form; the later family's looks); each row that meets fmt, with fmt's text TOLD by the authors' own Lean function (tested against real Go, not proved from fmt's source: count such statements apart). THE CARD IS WHAT COUNTS. Prove the row's statement (the work); the ties are given (YtnopgmgoehenpaaDoorTie.lean); close each card by the builder's one call (the guide's Derived/Test/ToyasCard.lean, 'card_holds'). Laid BY PROGRAM, IN A SANDBOX (cutbox-door.mjs). By AI agents, Wed Nov 11 2026. No macro, syntax, notation, axiom, sorry.
-/
import Derived.Test.YtnopgmgoehenpaaDoorRows
import GoSem.ClaimSeven
namespace Go.Proofs.YtnopgmgoehenpaaDoor
namespace Rows

/-- THE TIED CARD OF 'laws.FnTipOf'. -/
def fnTipOfCard : Claim7 := { stood := { row := fnTipOfRow, standIns := [], harness := (true, "d9d87657f85c53a9cfb456ddbddf1a7d7f512d2afed160678daef2ce5b4dd692"), looks := false }, kinds := [], alts := [], laidByText := true, laidKinds := [.data, .data, .data], laidTests := true, laidLooks := .later }
def FnTipOfCardSaid : Prop := Claim7.holds Tryd.pinned (.plain (OpenSpec.ofChange fnTipOfSpec)) fnTipOfCard

/-- THE SECOND FORM's CARD OF 'laws.FnTipOf'. -/
def fnTipOfUptoCard : Claim7 := { stood := { row := fnTipOfUptoRow, standIns := [], harness := (true, "d9d87657f85c53a9cfb456ddbddf1a7d7f512d2afed160678daef2ce5b4dd692"), looks := false }, kinds := [], alts := [], laidByText := true, laidKinds := [.data, .data, .data], laidTests := true, laidLooks := .later }
def FnTipOfUptoCardSaid : Prop := Claim7.holds Tryd.pinned (.plain (OpenSpec.upto fnTipOfSpec)) fnTipOfUptoCard
end Rows
end Go.Proofs.YtnopgmgoehenpaaDoor
