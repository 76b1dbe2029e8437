/-
  DERIVED. GIVEN WITH THE SEED: THE CARDS: each row of YtnehedcelfpegaaDoorRows.lean that lists a variable, with what it lists TIED to the program's text (the seventh form; the later family's looks); each row that meets fmt, with fmt's text TOLD by the authors' own Lean function (tested against real Go, not proved from fmt's source: count such statements apart). THE CARD IS WHAT COUNTS. Prove the row's statement (the work); the ties are given (YtnehedcelfpegaaDoorTie.lean); close each card by the builder's one call (the guide's Derived/Test/ToyasCard.lean, 'card_holds'). Laid BY PROGRAM, IN A SANDBOX (cutbox-door.mjs). By AI agents, Wed Nov 11 2026. No macro, syntax, notation, axiom, sorry.
-/
import Derived.Test.YtnehedcelfpegaaDoorRows
import GoSem.ClaimSeven
namespace Go.Proofs.YtnehedcelfpegaaDoor
namespace Rows

/-- THE TIED CARD OF 'laws.FnSpansValid'. -/
def fnSpansValidCard : Claim7 := { stood := { row := fnSpansValidRow, standIns := [], harness := (true, "d5ee45ccae2e06704c85015e1a1951392fda75d9ef0dd6f85911aa8a929405e8"), looks := false }, kinds := [], alts := [], laidByText := true, laidKinds := [.data, .data, .data], laidTests := true, laidLooks := .later }
def FnSpansValidCardSaid : Prop := Claim7.holds Tryd.pinned (.plain (OpenSpec.ofChange fnSpansValidSpec)) fnSpansValidCard

/-- THE TIED CARD OF 'laws.FnDishesValid'. -/
def fnDishesValidCard : Claim7 := { stood := { row := fnDishesValidRow, standIns := [], harness := (true, "d5ee45ccae2e06704c85015e1a1951392fda75d9ef0dd6f85911aa8a929405e8"), looks := false }, kinds := [], alts := [], laidByText := true, laidKinds := [.data, .data, .data], laidTests := true, laidLooks := .later }
def FnDishesValidCardSaid : Prop := Claim7.holds Tryd.pinned (.plain (OpenSpec.ofChange fnDishesValidSpec)) fnDishesValidCard

/-- THE TIED CARD OF 'laws.FnOrderOk'. -/
def fnOrderOkCard : Claim7 := { stood := { row := fnOrderOkRow, standIns := [], harness := (true, "d5ee45ccae2e06704c85015e1a1951392fda75d9ef0dd6f85911aa8a929405e8"), looks := false }, kinds := [], alts := [], laidByText := true, laidKinds := [.data, .data, .data], laidTests := true, laidLooks := .later }
def FnOrderOkCardSaid : Prop := Claim7.holds Tryd.pinned (.plain (OpenSpec.ofChange fnOrderOkSpec)) fnOrderOkCard

/-- THE TIED CARD OF 'laws.FnFlowEnds'. -/
def fnFlowEndsCard : Claim7 := { stood := { row := fnFlowEndsRow, standIns := [], harness := (true, "d5ee45ccae2e06704c85015e1a1951392fda75d9ef0dd6f85911aa8a929405e8"), looks := false }, kinds := [], alts := [], laidByText := true, laidKinds := [.data, .data, .data], laidTests := true, laidLooks := .later }
def FnFlowEndsCardSaid : Prop := Claim7.holds Tryd.pinned (.plain (OpenSpec.ofChange fnFlowEndsSpec)) fnFlowEndsCard

/-- THE TIED CARD OF 'laws.FnTogetherBest'. -/
def fnTogetherBestCard : Claim7 := { stood := { row := fnTogetherBestRow, standIns := [], harness := (true, "d5ee45ccae2e06704c85015e1a1951392fda75d9ef0dd6f85911aa8a929405e8"), looks := false }, kinds := [], alts := [], laidByText := true, laidKinds := [.data, .data, .data], laidTests := true, laidLooks := .later }
def FnTogetherBestCardSaid : Prop := Claim7.holds Tryd.pinned (.plain (OpenSpec.ofChange fnTogetherBestSpec)) fnTogetherBestCard

/-- THE TIED CARD OF 'laws.FnTogetherWaits'. -/
def fnTogetherWaitsCard : Claim7 := { stood := { row := fnTogetherWaitsRow, standIns := [], harness := (true, "d5ee45ccae2e06704c85015e1a1951392fda75d9ef0dd6f85911aa8a929405e8"), looks := false }, kinds := [], alts := [], laidByText := true, laidKinds := [.data, .data, .data], laidTests := true, laidLooks := .later }
def FnTogetherWaitsCardSaid : Prop := Claim7.holds Tryd.pinned (.plain (OpenSpec.ofChange fnTogetherWaitsSpec)) fnTogetherWaitsCard

/-- THE TIED CARD OF 'laws.FnFlowBest'. -/
def fnFlowBestCard : Claim7 := { stood := { row := fnFlowBestRow, standIns := [], harness := (true, "d5ee45ccae2e06704c85015e1a1951392fda75d9ef0dd6f85911aa8a929405e8"), looks := false }, kinds := [], alts := [], laidByText := true, laidKinds := [.data, .data, .data], laidTests := true, laidLooks := .later }
def FnFlowBestCardSaid : Prop := Claim7.holds Tryd.pinned (.plain (OpenSpec.ofChange fnFlowBestSpec)) fnFlowBestCard

/-- THE TIED CARD OF 'laws.FnFlowEnd'. -/
def fnFlowEndCard : Claim7 := { stood := { row := fnFlowEndRow, standIns := [], harness := (true, "d5ee45ccae2e06704c85015e1a1951392fda75d9ef0dd6f85911aa8a929405e8"), looks := false }, kinds := [], alts := [], laidByText := true, laidKinds := [.data, .data, .data], laidTests := true, laidLooks := .later }
def FnFlowEndCardSaid : Prop := Claim7.holds Tryd.pinned (.plain (OpenSpec.ofChange fnFlowEndSpec)) fnFlowEndCard

/-- THE TIED CARD OF 'laws.FnFlowLeast'. -/
def fnFlowLeastCard : Claim7 := { stood := { row := fnFlowLeastRow, standIns := [], harness := (true, "d5ee45ccae2e06704c85015e1a1951392fda75d9ef0dd6f85911aa8a929405e8"), looks := false }, kinds := [], alts := [], laidByText := true, laidKinds := [.data, .data, .data], laidTests := true, laidLooks := .later }
def FnFlowLeastCardSaid : Prop := Claim7.holds Tryd.pinned (.plain (OpenSpec.ofChange fnFlowLeastSpec)) fnFlowLeastCard

/-- THE SECOND FORM's CARD OF 'laws.FnSpansValid'. -/
def fnSpansValidUptoCard : Claim7 := { stood := { row := fnSpansValidUptoRow, standIns := [], harness := (true, "d5ee45ccae2e06704c85015e1a1951392fda75d9ef0dd6f85911aa8a929405e8"), looks := false }, kinds := [], alts := [], laidByText := true, laidKinds := [.data, .data, .data], laidTests := true, laidLooks := .later }
def FnSpansValidUptoCardSaid : Prop := Claim7.holds Tryd.pinned (.plain (OpenSpec.upto fnSpansValidSpec)) fnSpansValidUptoCard

/-- THE SECOND FORM's CARD OF 'laws.FnDishesValid'. -/
def fnDishesValidUptoCard : Claim7 := { stood := { row := fnDishesValidUptoRow, standIns := [], harness := (true, "d5ee45ccae2e06704c85015e1a1951392fda75d9ef0dd6f85911aa8a929405e8"), looks := false }, kinds := [], alts := [], laidByText := true, laidKinds := [.data, .data, .data], laidTests := true, laidLooks := .later }
def FnDishesValidUptoCardSaid : Prop := Claim7.holds Tryd.pinned (.plain (OpenSpec.upto fnDishesValidSpec)) fnDishesValidUptoCard

/-- THE SECOND FORM's CARD OF 'laws.FnOrderOk'. -/
def fnOrderOkUptoCard : Claim7 := { stood := { row := fnOrderOkUptoRow, standIns := [], harness := (true, "d5ee45ccae2e06704c85015e1a1951392fda75d9ef0dd6f85911aa8a929405e8"), looks := false }, kinds := [], alts := [], laidByText := true, laidKinds := [.data, .data, .data], laidTests := true, laidLooks := .later }
def FnOrderOkUptoCardSaid : Prop := Claim7.holds Tryd.pinned (.plain (OpenSpec.upto fnOrderOkSpec)) fnOrderOkUptoCard

/-- THE SECOND FORM's CARD OF 'laws.FnFlowEnds'. -/
def fnFlowEndsUptoCard : Claim7 := { stood := { row := fnFlowEndsUptoRow, standIns := [], harness := (true, "d5ee45ccae2e06704c85015e1a1951392fda75d9ef0dd6f85911aa8a929405e8"), looks := false }, kinds := [], alts := [], laidByText := true, laidKinds := [.data, .data, .data], laidTests := true, laidLooks := .later }
def FnFlowEndsUptoCardSaid : Prop := Claim7.holds Tryd.pinned (.plain (OpenSpec.upto fnFlowEndsSpec)) fnFlowEndsUptoCard

/-- THE SECOND FORM's CARD OF 'laws.FnTogetherBest'. -/
def fnTogetherBestUptoCard : Claim7 := { stood := { row := fnTogetherBestUptoRow, standIns := [], harness := (true, "d5ee45ccae2e06704c85015e1a1951392fda75d9ef0dd6f85911aa8a929405e8"), looks := false }, kinds := [], alts := [], laidByText := true, laidKinds := [.data, .data, .data], laidTests := true, laidLooks := .later }
def FnTogetherBestUptoCardSaid : Prop := Claim7.holds Tryd.pinned (.plain (OpenSpec.upto fnTogetherBestSpec)) fnTogetherBestUptoCard

/-- THE SECOND FORM's CARD OF 'laws.FnTogetherWaits'. -/
def fnTogetherWaitsUptoCard : Claim7 := { stood := { row := fnTogetherWaitsUptoRow, standIns := [], harness := (true, "d5ee45ccae2e06704c85015e1a1951392fda75d9ef0dd6f85911aa8a929405e8"), looks := false }, kinds := [], alts := [], laidByText := true, laidKinds := [.data, .data, .data], laidTests := true, laidLooks := .later }
def FnTogetherWaitsUptoCardSaid : Prop := Claim7.holds Tryd.pinned (.plain (OpenSpec.upto fnTogetherWaitsSpec)) fnTogetherWaitsUptoCard

/-- THE SECOND FORM's CARD OF 'laws.FnFlowBest'. -/
def fnFlowBestUptoCard : Claim7 := { stood := { row := fnFlowBestUptoRow, standIns := [], harness := (true, "d5ee45ccae2e06704c85015e1a1951392fda75d9ef0dd6f85911aa8a929405e8"), looks := false }, kinds := [], alts := [], laidByText := true, laidKinds := [.data, .data, .data], laidTests := true, laidLooks := .later }
def FnFlowBestUptoCardSaid : Prop := Claim7.holds Tryd.pinned (.plain (OpenSpec.upto fnFlowBestSpec)) fnFlowBestUptoCard

/-- THE SECOND FORM's CARD OF 'laws.FnFlowEnd'. -/
def fnFlowEndUptoCard : Claim7 := { stood := { row := fnFlowEndUptoRow, standIns := [], harness := (true, "d5ee45ccae2e06704c85015e1a1951392fda75d9ef0dd6f85911aa8a929405e8"), looks := false }, kinds := [], alts := [], laidByText := true, laidKinds := [.data, .data, .data], laidTests := true, laidLooks := .later }
def FnFlowEndUptoCardSaid : Prop := Claim7.holds Tryd.pinned (.plain (OpenSpec.upto fnFlowEndSpec)) fnFlowEndUptoCard

/-- THE SECOND FORM's CARD OF 'laws.FnFlowLeast'. -/
def fnFlowLeastUptoCard : Claim7 := { stood := { row := fnFlowLeastUptoRow, standIns := [], harness := (true, "d5ee45ccae2e06704c85015e1a1951392fda75d9ef0dd6f85911aa8a929405e8"), looks := false }, kinds := [], alts := [], laidByText := true, laidKinds := [.data, .data, .data], laidTests := true, laidLooks := .later }
def FnFlowLeastUptoCardSaid : Prop := Claim7.holds Tryd.pinned (.plain (OpenSpec.upto fnFlowLeastSpec)) fnFlowLeastUptoCard
end Rows
end Go.Proofs.YtnehedcelfpegaaDoor
