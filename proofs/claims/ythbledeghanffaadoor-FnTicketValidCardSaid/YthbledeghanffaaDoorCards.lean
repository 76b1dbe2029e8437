/-
  DERIVED. GIVEN WITH THE SEED: THE CARDS: each row of YthbledeghanffaaDoorRows.lean that lists a variable, with what it lists TIED to the program's text (the seventh form; the later family's looks); each row that meets fmt, with fmt's text TOLD by the authors' own Lean function (tested against real Go, not proved from fmt's source: count such statements apart). THE CARD IS WHAT COUNTS. Prove the row's statement (the work); the ties are given (YthbledeghanffaaDoorTie.lean); close each card by the builder's one call (the guide's Derived/Test/ToyasCard.lean, 'card_holds'). Laid BY PROGRAM, IN A SANDBOX (cutbox-door.mjs). By AI agents, Wed Nov 11 2026. No macro, syntax, notation, axiom, sorry.
-/
import Derived.Test.YthbledeghanffaaDoorRows
import GoSem.ClaimSeven
namespace Go.Proofs.YthbledeghanffaaDoor
namespace Rows

/-- THE TIED CARD OF 'laws.FnTicketNew'. -/
def fnTicketNewCard : Claim7 := { stood := { row := fnTicketNewRow, standIns := [], harness := (true, "eb163f0f8021dc67e7973aaacfcf438673088efb1650685f3a25406d455d117e"), looks := false }, kinds := [], alts := [], laidByText := true, laidKinds := [.data, .data, .data], laidTests := true, laidLooks := .later }
def FnTicketNewCardSaid : Prop := Claim7.holds Tryd.pinned (.plain (OpenSpec.ofChange fnTicketNewSpec)) fnTicketNewCard

/-- THE TIED CARD OF 'laws.FnTicketValid'. -/
def fnTicketValidCard : Claim7 := { stood := { row := fnTicketValidRow, standIns := [], harness := (true, "eb163f0f8021dc67e7973aaacfcf438673088efb1650685f3a25406d455d117e"), looks := false }, kinds := [], alts := [], laidByText := true, laidKinds := [.data, .data, .data], laidTests := true, laidLooks := .later }
def FnTicketValidCardSaid : Prop := Claim7.holds Tryd.pinned (.plain (OpenSpec.ofChange fnTicketValidSpec)) fnTicketValidCard

/-- THE TIED CARD OF 'laws.FnTicketCourse'. -/
def fnTicketCourseCard : Claim7 := { stood := { row := fnTicketCourseRow, standIns := [], harness := (true, "eb163f0f8021dc67e7973aaacfcf438673088efb1650685f3a25406d455d117e"), looks := false }, kinds := [], alts := [], laidByText := true, laidKinds := [.data, .data, .data], laidTests := true, laidLooks := .later }
def FnTicketCourseCardSaid : Prop := Claim7.holds Tryd.pinned (.plain (OpenSpec.ofChange fnTicketCourseSpec)) fnTicketCourseCard

/-- THE TIED CARD OF 'laws.FnKitchenValid'. -/
def fnKitchenValidCard : Claim7 := { stood := { row := fnKitchenValidRow, standIns := [], harness := (true, "eb163f0f8021dc67e7973aaacfcf438673088efb1650685f3a25406d455d117e"), looks := false }, kinds := [], alts := [], laidByText := true, laidKinds := [.data, .data, .data], laidTests := true, laidLooks := .later }
def FnKitchenValidCardSaid : Prop := Claim7.holds Tryd.pinned (.plain (OpenSpec.ofChange fnKitchenValidSpec)) fnKitchenValidCard

/-- THE TIED CARD OF 'laws.FnTicketDo'. -/
def fnTicketDoCard : Claim7 := { stood := { row := fnTicketDoRow, standIns := [], harness := (true, "eb163f0f8021dc67e7973aaacfcf438673088efb1650685f3a25406d455d117e"), looks := false }, kinds := [], alts := [], laidByText := true, laidKinds := [.data, .data, .data], laidTests := true, laidLooks := .later }
def FnTicketDoCardSaid : Prop := Claim7.holds Tryd.pinned (.plain (OpenSpec.ofChange fnTicketDoSpec)) fnTicketDoCard

/-- THE TIED CARD OF 'laws.FnWorkLeft'. -/
def fnWorkLeftCard : Claim7 := { stood := { row := fnWorkLeftRow, standIns := [], harness := (true, "eb163f0f8021dc67e7973aaacfcf438673088efb1650685f3a25406d455d117e"), looks := false }, kinds := [], alts := [], laidByText := true, laidKinds := [.data, .data, .data], laidTests := true, laidLooks := .later }
def FnWorkLeftCardSaid : Prop := Claim7.holds Tryd.pinned (.plain (OpenSpec.ofChange fnWorkLeftSpec)) fnWorkLeftCard

/-- THE TIED CARD OF 'laws.FnTicketMay'. -/
def fnTicketMayCard : Claim7 := { stood := { row := fnTicketMayRow, standIns := [], harness := (true, "eb163f0f8021dc67e7973aaacfcf438673088efb1650685f3a25406d455d117e"), looks := false }, kinds := [], alts := [], laidByText := true, laidKinds := [.data, .data, .data], laidTests := true, laidLooks := .later }
def FnTicketMayCardSaid : Prop := Claim7.holds Tryd.pinned (.plain (OpenSpec.ofChange fnTicketMaySpec)) fnTicketMayCard

/-- THE TIED CARD OF 'laws.FnNextFire'. -/
def fnNextFireCard : Claim7 := { stood := { row := fnNextFireRow, standIns := [], harness := (true, "eb163f0f8021dc67e7973aaacfcf438673088efb1650685f3a25406d455d117e"), looks := false }, kinds := [], alts := [], laidByText := true, laidKinds := [.data, .data, .data], laidTests := true, laidLooks := .later }
def FnNextFireCardSaid : Prop := Claim7.holds Tryd.pinned (.plain (OpenSpec.ofChange fnNextFireSpec)) fnNextFireCard

/-- THE TIED CARD OF 'laws.FnTicketDone'. -/
def fnTicketDoneCard : Claim7 := { stood := { row := fnTicketDoneRow, standIns := [], harness := (true, "eb163f0f8021dc67e7973aaacfcf438673088efb1650685f3a25406d455d117e"), looks := false }, kinds := [], alts := [], laidByText := true, laidKinds := [.data, .data, .data], laidTests := true, laidLooks := .later }
def FnTicketDoneCardSaid : Prop := Claim7.holds Tryd.pinned (.plain (OpenSpec.ofChange fnTicketDoneSpec)) fnTicketDoneCard

/-- THE TIED CARD OF 'laws.FnWorkStep'. -/
def fnWorkStepCard : Claim7 := { stood := { row := fnWorkStepRow, standIns := [], harness := (true, "eb163f0f8021dc67e7973aaacfcf438673088efb1650685f3a25406d455d117e"), looks := false }, kinds := [], alts := [], laidByText := true, laidKinds := [.data, .data, .data], laidTests := true, laidLooks := .later }
def FnWorkStepCardSaid : Prop := Claim7.holds Tryd.pinned (.plain (OpenSpec.ofChange fnWorkStepSpec)) fnWorkStepCard

/-- THE TIED CARD OF 'laws.FnWorkRun'. -/
def fnWorkRunCard : Claim7 := { stood := { row := fnWorkRunRow, standIns := [], harness := (true, "eb163f0f8021dc67e7973aaacfcf438673088efb1650685f3a25406d455d117e"), looks := false }, kinds := [], alts := [], laidByText := true, laidKinds := [.data, .data, .data], laidTests := true, laidLooks := .later }
def FnWorkRunCardSaid : Prop := Claim7.holds Tryd.pinned (.plain (OpenSpec.ofChange fnWorkRunSpec)) fnWorkRunCard

/-- THE SECOND FORM's CARD OF 'laws.FnTicketNew'. -/
def fnTicketNewUptoCard : Claim7 := { stood := { row := fnTicketNewUptoRow, standIns := [], harness := (true, "eb163f0f8021dc67e7973aaacfcf438673088efb1650685f3a25406d455d117e"), looks := false }, kinds := [], alts := [], laidByText := true, laidKinds := [.data, .data, .data], laidTests := true, laidLooks := .later }
def FnTicketNewUptoCardSaid : Prop := Claim7.holds Tryd.pinned (.plain (OpenSpec.upto fnTicketNewSpec)) fnTicketNewUptoCard

/-- THE SECOND FORM's CARD OF 'laws.FnTicketValid'. -/
def fnTicketValidUptoCard : Claim7 := { stood := { row := fnTicketValidUptoRow, standIns := [], harness := (true, "eb163f0f8021dc67e7973aaacfcf438673088efb1650685f3a25406d455d117e"), looks := false }, kinds := [], alts := [], laidByText := true, laidKinds := [.data, .data, .data], laidTests := true, laidLooks := .later }
def FnTicketValidUptoCardSaid : Prop := Claim7.holds Tryd.pinned (.plain (OpenSpec.upto fnTicketValidSpec)) fnTicketValidUptoCard

/-- THE SECOND FORM's CARD OF 'laws.FnTicketCourse'. -/
def fnTicketCourseUptoCard : Claim7 := { stood := { row := fnTicketCourseUptoRow, standIns := [], harness := (true, "eb163f0f8021dc67e7973aaacfcf438673088efb1650685f3a25406d455d117e"), looks := false }, kinds := [], alts := [], laidByText := true, laidKinds := [.data, .data, .data], laidTests := true, laidLooks := .later }
def FnTicketCourseUptoCardSaid : Prop := Claim7.holds Tryd.pinned (.plain (OpenSpec.upto fnTicketCourseSpec)) fnTicketCourseUptoCard

/-- THE SECOND FORM's CARD OF 'laws.FnKitchenValid'. -/
def fnKitchenValidUptoCard : Claim7 := { stood := { row := fnKitchenValidUptoRow, standIns := [], harness := (true, "eb163f0f8021dc67e7973aaacfcf438673088efb1650685f3a25406d455d117e"), looks := false }, kinds := [], alts := [], laidByText := true, laidKinds := [.data, .data, .data], laidTests := true, laidLooks := .later }
def FnKitchenValidUptoCardSaid : Prop := Claim7.holds Tryd.pinned (.plain (OpenSpec.upto fnKitchenValidSpec)) fnKitchenValidUptoCard

/-- THE SECOND FORM's CARD OF 'laws.FnTicketDo'. -/
def fnTicketDoUptoCard : Claim7 := { stood := { row := fnTicketDoUptoRow, standIns := [], harness := (true, "eb163f0f8021dc67e7973aaacfcf438673088efb1650685f3a25406d455d117e"), looks := false }, kinds := [], alts := [], laidByText := true, laidKinds := [.data, .data, .data], laidTests := true, laidLooks := .later }
def FnTicketDoUptoCardSaid : Prop := Claim7.holds Tryd.pinned (.plain (OpenSpec.upto fnTicketDoSpec)) fnTicketDoUptoCard

/-- THE SECOND FORM's CARD OF 'laws.FnWorkLeft'. -/
def fnWorkLeftUptoCard : Claim7 := { stood := { row := fnWorkLeftUptoRow, standIns := [], harness := (true, "eb163f0f8021dc67e7973aaacfcf438673088efb1650685f3a25406d455d117e"), looks := false }, kinds := [], alts := [], laidByText := true, laidKinds := [.data, .data, .data], laidTests := true, laidLooks := .later }
def FnWorkLeftUptoCardSaid : Prop := Claim7.holds Tryd.pinned (.plain (OpenSpec.upto fnWorkLeftSpec)) fnWorkLeftUptoCard

/-- THE SECOND FORM's CARD OF 'laws.FnTicketMay'. -/
def fnTicketMayUptoCard : Claim7 := { stood := { row := fnTicketMayUptoRow, standIns := [], harness := (true, "eb163f0f8021dc67e7973aaacfcf438673088efb1650685f3a25406d455d117e"), looks := false }, kinds := [], alts := [], laidByText := true, laidKinds := [.data, .data, .data], laidTests := true, laidLooks := .later }
def FnTicketMayUptoCardSaid : Prop := Claim7.holds Tryd.pinned (.plain (OpenSpec.upto fnTicketMaySpec)) fnTicketMayUptoCard

/-- THE SECOND FORM's CARD OF 'laws.FnNextFire'. -/
def fnNextFireUptoCard : Claim7 := { stood := { row := fnNextFireUptoRow, standIns := [], harness := (true, "eb163f0f8021dc67e7973aaacfcf438673088efb1650685f3a25406d455d117e"), looks := false }, kinds := [], alts := [], laidByText := true, laidKinds := [.data, .data, .data], laidTests := true, laidLooks := .later }
def FnNextFireUptoCardSaid : Prop := Claim7.holds Tryd.pinned (.plain (OpenSpec.upto fnNextFireSpec)) fnNextFireUptoCard

/-- THE SECOND FORM's CARD OF 'laws.FnTicketDone'. -/
def fnTicketDoneUptoCard : Claim7 := { stood := { row := fnTicketDoneUptoRow, standIns := [], harness := (true, "eb163f0f8021dc67e7973aaacfcf438673088efb1650685f3a25406d455d117e"), looks := false }, kinds := [], alts := [], laidByText := true, laidKinds := [.data, .data, .data], laidTests := true, laidLooks := .later }
def FnTicketDoneUptoCardSaid : Prop := Claim7.holds Tryd.pinned (.plain (OpenSpec.upto fnTicketDoneSpec)) fnTicketDoneUptoCard

/-- THE SECOND FORM's CARD OF 'laws.FnWorkStep'. -/
def fnWorkStepUptoCard : Claim7 := { stood := { row := fnWorkStepUptoRow, standIns := [], harness := (true, "eb163f0f8021dc67e7973aaacfcf438673088efb1650685f3a25406d455d117e"), looks := false }, kinds := [], alts := [], laidByText := true, laidKinds := [.data, .data, .data], laidTests := true, laidLooks := .later }
def FnWorkStepUptoCardSaid : Prop := Claim7.holds Tryd.pinned (.plain (OpenSpec.upto fnWorkStepSpec)) fnWorkStepUptoCard

/-- THE SECOND FORM's CARD OF 'laws.FnWorkRun'. -/
def fnWorkRunUptoCard : Claim7 := { stood := { row := fnWorkRunUptoRow, standIns := [], harness := (true, "eb163f0f8021dc67e7973aaacfcf438673088efb1650685f3a25406d455d117e"), looks := false }, kinds := [], alts := [], laidByText := true, laidKinds := [.data, .data, .data], laidTests := true, laidLooks := .later }
def FnWorkRunUptoCardSaid : Prop := Claim7.holds Tryd.pinned (.plain (OpenSpec.upto fnWorkRunSpec)) fnWorkRunUptoCard
end Rows
end Go.Proofs.YthbledeghanffaaDoor
