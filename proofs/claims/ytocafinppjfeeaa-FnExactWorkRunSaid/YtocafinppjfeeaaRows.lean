/-
  No cell of these rows narrows 'for every input' (looked for: loops, veiled, ifaces, maps, wideKeys, modest, calm, conditions, laid).
  DERIVED. THE GIVEN ROWS OF THIS SEAT. 11 by the template 'for every input the law returns true; each argument reads behind the call as it read before'; 0 by the template 'total and deterministic' (their statements: YtocafinppjfeeaaTotals.lean).
  GIVEN WITH THE SEED: the statements are not yours to turn. If you find one false, say at which input.
  Laid BY PROGRAM, IN A SANDBOX (cutbox-rows.mjs): the forced cells as the released guide's own fill.sh prints them over the translation 41eb5bdfc4f495eb… (all of the seat's roots in one cut). By AI agents, Wed Nov 11 2026. No macro, syntax, notation, axiom, sorry.
-/
import Derived.Test.YtocafinppjfeeaaChecked
import GoSem.Claim
import GoSem.ClaimJoined
import GoSem.ClaimMapViews
import Derived.JoinedTies
import Derived.KernelRfl
namespace Go.Proofs.Ytocafinppjfeeaa
/- THE CELL 'sum', in the pinned program and in every row, IS THE sha256 OF THE DUMP (.gsa) THAT YtocafinppjfeeaaProg.lean LOADS. Nothing in Lean hashes anything: it is a label: what it is worth is what the hold of that sum in a sandbox is worth. -/
noncomputable def Try.pinned : Pinned := { name := "ytocafinppjfeeaa", sum := "41eb5bdfc4f495ebaa75510847b97c389008dcbd9602c99921650a1a4f4b46d8", checked := Try.checked }
namespace Rows
def none {H : Type} : Left H := { results := [], args := [] }

/-- 'laws.FnExactTicketValid': WHATEVER THE INPUT: true; the input reads as it did. -/
def fnExactTicketValidSpec : ChangeSpec := { name := "fnExactTicketValid", fn := fun _ => fun
  | [d] => { results := [.lit (.bool true)], args := [d] }
  | _ => none }
def fnExactTicketValidRow : OpenClaim := { program := "ytocafinppjfeeaa", sum := "41eb5bdfc4f495ebaa75510847b97c389008dcbd9602c99921650a1a4f4b46d8", func := "loop.example/restaurantkitchen/laws.FnExactTicketValid", spec := "fnExactTicketValid", apart := false }
def FnExactTicketValidSaid : Prop := fnExactTicketValidRow.holds Try.pinned (OpenSpec.ofChange fnExactTicketValidSpec)

/-- ITS FALSE NEIGHBOUR: 'it returns false'. Refute it at one input. -/
def fnExactTicketValidWrong : ChangeSpec := { name := "fnExactTicketValid", fn := fun _ => fun
  | [d] => { results := [.lit (.bool false)], args := [d] }
  | _ => none }
def FnExactTicketValidWrongFalsely : Prop := fnExactTicketValidRow.holds Try.pinned (OpenSpec.ofChange fnExactTicketValidWrong)

/-- 'laws.FnExactTicketNew': WHATEVER THE INPUT: true; the input reads as it did. -/
def fnExactTicketNewSpec : ChangeSpec := { name := "fnExactTicketNew", fn := fun _ => fun
  | [d] => { results := [.lit (.bool true)], args := [d] }
  | _ => none }
def fnExactTicketNewRow : OpenClaim := { program := "ytocafinppjfeeaa", sum := "41eb5bdfc4f495ebaa75510847b97c389008dcbd9602c99921650a1a4f4b46d8", func := "loop.example/restaurantkitchen/laws.FnExactTicketNew", spec := "fnExactTicketNew", apart := false }
def FnExactTicketNewSaid : Prop := fnExactTicketNewRow.holds Try.pinned (OpenSpec.ofChange fnExactTicketNewSpec)

/-- ITS FALSE NEIGHBOUR: 'it returns false'. Refute it at one input. -/
def fnExactTicketNewWrong : ChangeSpec := { name := "fnExactTicketNew", fn := fun _ => fun
  | [d] => { results := [.lit (.bool false)], args := [d] }
  | _ => none }
def FnExactTicketNewWrongFalsely : Prop := fnExactTicketNewRow.holds Try.pinned (OpenSpec.ofChange fnExactTicketNewWrong)

/-- 'laws.FnExactTicketCourse': WHATEVER THE INPUT: true; the input reads as it did. -/
def fnExactTicketCourseSpec : ChangeSpec := { name := "fnExactTicketCourse", fn := fun _ => fun
  | [d] => { results := [.lit (.bool true)], args := [d] }
  | _ => none }
def fnExactTicketCourseRow : OpenClaim := { program := "ytocafinppjfeeaa", sum := "41eb5bdfc4f495ebaa75510847b97c389008dcbd9602c99921650a1a4f4b46d8", func := "loop.example/restaurantkitchen/laws.FnExactTicketCourse", spec := "fnExactTicketCourse", apart := false }
def FnExactTicketCourseSaid : Prop := fnExactTicketCourseRow.holds Try.pinned (OpenSpec.ofChange fnExactTicketCourseSpec)

/-- ITS FALSE NEIGHBOUR: 'it returns false'. Refute it at one input. -/
def fnExactTicketCourseWrong : ChangeSpec := { name := "fnExactTicketCourse", fn := fun _ => fun
  | [d] => { results := [.lit (.bool false)], args := [d] }
  | _ => none }
def FnExactTicketCourseWrongFalsely : Prop := fnExactTicketCourseRow.holds Try.pinned (OpenSpec.ofChange fnExactTicketCourseWrong)

/-- 'laws.FnExactTicketDone': WHATEVER THE INPUT: true; the input reads as it did. -/
def fnExactTicketDoneSpec : ChangeSpec := { name := "fnExactTicketDone", fn := fun _ => fun
  | [d] => { results := [.lit (.bool true)], args := [d] }
  | _ => none }
def fnExactTicketDoneRow : OpenClaim := { program := "ytocafinppjfeeaa", sum := "41eb5bdfc4f495ebaa75510847b97c389008dcbd9602c99921650a1a4f4b46d8", func := "loop.example/restaurantkitchen/laws.FnExactTicketDone", spec := "fnExactTicketDone", apart := false }
def FnExactTicketDoneSaid : Prop := fnExactTicketDoneRow.holds Try.pinned (OpenSpec.ofChange fnExactTicketDoneSpec)

/-- ITS FALSE NEIGHBOUR: 'it returns false'. Refute it at one input. -/
def fnExactTicketDoneWrong : ChangeSpec := { name := "fnExactTicketDone", fn := fun _ => fun
  | [d] => { results := [.lit (.bool false)], args := [d] }
  | _ => none }
def FnExactTicketDoneWrongFalsely : Prop := fnExactTicketDoneRow.holds Try.pinned (OpenSpec.ofChange fnExactTicketDoneWrong)

/-- 'laws.FnExactKitchenValid': WHATEVER THE INPUT: true; the input reads as it did. -/
def fnExactKitchenValidSpec : ChangeSpec := { name := "fnExactKitchenValid", fn := fun _ => fun
  | [d] => { results := [.lit (.bool true)], args := [d] }
  | _ => none }
def fnExactKitchenValidRow : OpenClaim := { program := "ytocafinppjfeeaa", sum := "41eb5bdfc4f495ebaa75510847b97c389008dcbd9602c99921650a1a4f4b46d8", func := "loop.example/restaurantkitchen/laws.FnExactKitchenValid", spec := "fnExactKitchenValid", apart := false }
def FnExactKitchenValidSaid : Prop := fnExactKitchenValidRow.holds Try.pinned (OpenSpec.ofChange fnExactKitchenValidSpec)

/-- ITS FALSE NEIGHBOUR: 'it returns false'. Refute it at one input. -/
def fnExactKitchenValidWrong : ChangeSpec := { name := "fnExactKitchenValid", fn := fun _ => fun
  | [d] => { results := [.lit (.bool false)], args := [d] }
  | _ => none }
def FnExactKitchenValidWrongFalsely : Prop := fnExactKitchenValidRow.holds Try.pinned (OpenSpec.ofChange fnExactKitchenValidWrong)

/-- 'laws.FnExactWorkLeft': WHATEVER THE INPUT: true; the input reads as it did. -/
def fnExactWorkLeftSpec : ChangeSpec := { name := "fnExactWorkLeft", fn := fun _ => fun
  | [d] => { results := [.lit (.bool true)], args := [d] }
  | _ => none }
def fnExactWorkLeftRow : OpenClaim := { program := "ytocafinppjfeeaa", sum := "41eb5bdfc4f495ebaa75510847b97c389008dcbd9602c99921650a1a4f4b46d8", func := "loop.example/restaurantkitchen/laws.FnExactWorkLeft", spec := "fnExactWorkLeft", apart := false }
def FnExactWorkLeftSaid : Prop := fnExactWorkLeftRow.holds Try.pinned (OpenSpec.ofChange fnExactWorkLeftSpec)

/-- ITS FALSE NEIGHBOUR: 'it returns false'. Refute it at one input. -/
def fnExactWorkLeftWrong : ChangeSpec := { name := "fnExactWorkLeft", fn := fun _ => fun
  | [d] => { results := [.lit (.bool false)], args := [d] }
  | _ => none }
def FnExactWorkLeftWrongFalsely : Prop := fnExactWorkLeftRow.holds Try.pinned (OpenSpec.ofChange fnExactWorkLeftWrong)

/-- 'laws.FnExactTicketDo': WHATEVER THE INPUT: true; the input reads as it did. -/
def fnExactTicketDoSpec : ChangeSpec := { name := "fnExactTicketDo", fn := fun _ => fun
  | [d1, d2, d3] => { results := [.lit (.bool true)], args := [d1, d2, d3] }
  | _ => none }
def fnExactTicketDoRow : OpenClaim := { program := "ytocafinppjfeeaa", sum := "41eb5bdfc4f495ebaa75510847b97c389008dcbd9602c99921650a1a4f4b46d8", func := "loop.example/restaurantkitchen/laws.FnExactTicketDo", spec := "fnExactTicketDo", apart := false }
def FnExactTicketDoSaid : Prop := fnExactTicketDoRow.holds Try.pinned (OpenSpec.ofChange fnExactTicketDoSpec)

/-- ITS FALSE NEIGHBOUR: 'it returns false'. Refute it at one input. -/
def fnExactTicketDoWrong : ChangeSpec := { name := "fnExactTicketDo", fn := fun _ => fun
  | [d1, d2, d3] => { results := [.lit (.bool false)], args := [d1, d2, d3] }
  | _ => none }
def FnExactTicketDoWrongFalsely : Prop := fnExactTicketDoRow.holds Try.pinned (OpenSpec.ofChange fnExactTicketDoWrong)

/-- 'laws.FnExactTicketMay': WHATEVER THE INPUT: true; the input reads as it did. -/
def fnExactTicketMaySpec : ChangeSpec := { name := "fnExactTicketMay", fn := fun _ => fun
  | [d] => { results := [.lit (.bool true)], args := [d] }
  | _ => none }
def fnExactTicketMayRow : OpenClaim := { program := "ytocafinppjfeeaa", sum := "41eb5bdfc4f495ebaa75510847b97c389008dcbd9602c99921650a1a4f4b46d8", func := "loop.example/restaurantkitchen/laws.FnExactTicketMay", spec := "fnExactTicketMay", apart := false }
def FnExactTicketMaySaid : Prop := fnExactTicketMayRow.holds Try.pinned (OpenSpec.ofChange fnExactTicketMaySpec)

/-- ITS FALSE NEIGHBOUR: 'it returns false'. Refute it at one input. -/
def fnExactTicketMayWrong : ChangeSpec := { name := "fnExactTicketMay", fn := fun _ => fun
  | [d] => { results := [.lit (.bool false)], args := [d] }
  | _ => none }
def FnExactTicketMayWrongFalsely : Prop := fnExactTicketMayRow.holds Try.pinned (OpenSpec.ofChange fnExactTicketMayWrong)

/-- 'laws.FnExactNextFire': WHATEVER THE INPUT: true; the input reads as it did. -/
def fnExactNextFireSpec : ChangeSpec := { name := "fnExactNextFire", fn := fun _ => fun
  | [d] => { results := [.lit (.bool true)], args := [d] }
  | _ => none }
def fnExactNextFireRow : OpenClaim := { program := "ytocafinppjfeeaa", sum := "41eb5bdfc4f495ebaa75510847b97c389008dcbd9602c99921650a1a4f4b46d8", func := "loop.example/restaurantkitchen/laws.FnExactNextFire", spec := "fnExactNextFire", apart := false }
def FnExactNextFireSaid : Prop := fnExactNextFireRow.holds Try.pinned (OpenSpec.ofChange fnExactNextFireSpec)

/-- ITS FALSE NEIGHBOUR: 'it returns false'. Refute it at one input. -/
def fnExactNextFireWrong : ChangeSpec := { name := "fnExactNextFire", fn := fun _ => fun
  | [d] => { results := [.lit (.bool false)], args := [d] }
  | _ => none }
def FnExactNextFireWrongFalsely : Prop := fnExactNextFireRow.holds Try.pinned (OpenSpec.ofChange fnExactNextFireWrong)

/-- 'laws.FnExactWorkStep': WHATEVER THE INPUT: true; the input reads as it did. -/
def fnExactWorkStepSpec : ChangeSpec := { name := "fnExactWorkStep", fn := fun _ => fun
  | [d] => { results := [.lit (.bool true)], args := [d] }
  | _ => none }
def fnExactWorkStepRow : OpenClaim := { program := "ytocafinppjfeeaa", sum := "41eb5bdfc4f495ebaa75510847b97c389008dcbd9602c99921650a1a4f4b46d8", func := "loop.example/restaurantkitchen/laws.FnExactWorkStep", spec := "fnExactWorkStep", apart := false }
def FnExactWorkStepSaid : Prop := fnExactWorkStepRow.holds Try.pinned (OpenSpec.ofChange fnExactWorkStepSpec)

/-- ITS FALSE NEIGHBOUR: 'it returns false'. Refute it at one input. -/
def fnExactWorkStepWrong : ChangeSpec := { name := "fnExactWorkStep", fn := fun _ => fun
  | [d] => { results := [.lit (.bool false)], args := [d] }
  | _ => none }
def FnExactWorkStepWrongFalsely : Prop := fnExactWorkStepRow.holds Try.pinned (OpenSpec.ofChange fnExactWorkStepWrong)

/-- 'laws.FnExactWorkRun': WHATEVER THE INPUT: true; the input reads as it did. -/
def fnExactWorkRunSpec : ChangeSpec := { name := "fnExactWorkRun", fn := fun _ => fun
  | [d1, d2] => { results := [.lit (.bool true)], args := [d1, d2] }
  | _ => none }
def fnExactWorkRunRow : OpenClaim := { program := "ytocafinppjfeeaa", sum := "41eb5bdfc4f495ebaa75510847b97c389008dcbd9602c99921650a1a4f4b46d8", func := "loop.example/restaurantkitchen/laws.FnExactWorkRun", spec := "fnExactWorkRun", apart := false }
def FnExactWorkRunSaid : Prop := fnExactWorkRunRow.holds Try.pinned (OpenSpec.ofChange fnExactWorkRunSpec)

/-- ITS FALSE NEIGHBOUR: 'it returns false'. Refute it at one input. -/
def fnExactWorkRunWrong : ChangeSpec := { name := "fnExactWorkRun", fn := fun _ => fun
  | [d1, d2] => { results := [.lit (.bool false)], args := [d1, d2] }
  | _ => none }
def FnExactWorkRunWrongFalsely : Prop := fnExactWorkRunRow.holds Try.pinned (OpenSpec.ofChange fnExactWorkRunWrong)

/- THE SECOND FORM. 'bulk': how many values and letters a reading holds, each counted each time it is reached (what is shared counts as often as it is met; a slice's spare places count too). A statement '..UptoSaid' is the law's where the arguments, and the package variables that the reading takes, are together of bulk at most 1048576: NARROWER than '..Said'. Prove '..Said' where nothing that the law and all that it calls make is longer than what came in: it says more and counts as full. Else prove '..UptoSaid'. A law counts once. -/
mutual
def uptoBulk {H : Type} : DataW H → Nat
  | .lit (.string bytes) => bytes.length + 1
  | .lit _ => 1
  | .nil => 1
  | .ptr d => uptoBulk d + 1
  | .slice elems spare => uptoBulkAll elems + uptoBulkAll spare + 1
  | .agg parts => uptoBulkAll parts + 1
  | .iface _ d => uptoBulk d + 1
  | .map entries => uptoBulkEntries entries + 1
  | .held _ => 1
def uptoBulkAll {H : Type} : List (DataW H) → Nat
  | [] => 0
  | d :: r => uptoBulk d + uptoBulkAll r
def uptoBulkEntries {H : Type} : List (Lit × DataW H) → Nat
  | [] => 0
  | x :: r => uptoBulkEntry x + uptoBulkEntries r
def uptoBulkEntry {H : Type} : Lit × DataW H → Nat
  | (.string bytes, d) => bytes.length + uptoBulk d + 1
  | (_, d) => uptoBulk d + 1
 end
def uptoSmall : (H : Type) → List (DataW H) → Bool := fun _ ds => decide (uptoBulkAll ds ≤ 1048576)
def OpenSpec.upto (s : _root_.Go.ChangeSpec) : _root_.Go.OpenSpec := { _root_.Go.OpenSpec.ofChange s with cond := some uptoSmall }

/-- 'laws.FnExactTicketValid', WHERE WHAT IT READS IS OF BULK AT MOST 1048576: true; the input reads as it did. -/
def fnExactTicketValidUptoRow : OpenClaim := { program := "ytocafinppjfeeaa", sum := "41eb5bdfc4f495ebaa75510847b97c389008dcbd9602c99921650a1a4f4b46d8", func := "loop.example/restaurantkitchen/laws.FnExactTicketValid", spec := "fnExactTicketValid", apart := false, narrowed := true }
def FnExactTicketValidUptoSaid : Prop := fnExactTicketValidUptoRow.holds Try.pinned (OpenSpec.upto fnExactTicketValidSpec)

/-- 'laws.FnExactTicketNew', WHERE WHAT IT READS IS OF BULK AT MOST 1048576: true; the input reads as it did. -/
def fnExactTicketNewUptoRow : OpenClaim := { program := "ytocafinppjfeeaa", sum := "41eb5bdfc4f495ebaa75510847b97c389008dcbd9602c99921650a1a4f4b46d8", func := "loop.example/restaurantkitchen/laws.FnExactTicketNew", spec := "fnExactTicketNew", apart := false, narrowed := true }
def FnExactTicketNewUptoSaid : Prop := fnExactTicketNewUptoRow.holds Try.pinned (OpenSpec.upto fnExactTicketNewSpec)

/-- 'laws.FnExactTicketCourse', WHERE WHAT IT READS IS OF BULK AT MOST 1048576: true; the input reads as it did. -/
def fnExactTicketCourseUptoRow : OpenClaim := { program := "ytocafinppjfeeaa", sum := "41eb5bdfc4f495ebaa75510847b97c389008dcbd9602c99921650a1a4f4b46d8", func := "loop.example/restaurantkitchen/laws.FnExactTicketCourse", spec := "fnExactTicketCourse", apart := false, narrowed := true }
def FnExactTicketCourseUptoSaid : Prop := fnExactTicketCourseUptoRow.holds Try.pinned (OpenSpec.upto fnExactTicketCourseSpec)

/-- 'laws.FnExactTicketDone', WHERE WHAT IT READS IS OF BULK AT MOST 1048576: true; the input reads as it did. -/
def fnExactTicketDoneUptoRow : OpenClaim := { program := "ytocafinppjfeeaa", sum := "41eb5bdfc4f495ebaa75510847b97c389008dcbd9602c99921650a1a4f4b46d8", func := "loop.example/restaurantkitchen/laws.FnExactTicketDone", spec := "fnExactTicketDone", apart := false, narrowed := true }
def FnExactTicketDoneUptoSaid : Prop := fnExactTicketDoneUptoRow.holds Try.pinned (OpenSpec.upto fnExactTicketDoneSpec)

/-- 'laws.FnExactKitchenValid', WHERE WHAT IT READS IS OF BULK AT MOST 1048576: true; the input reads as it did. -/
def fnExactKitchenValidUptoRow : OpenClaim := { program := "ytocafinppjfeeaa", sum := "41eb5bdfc4f495ebaa75510847b97c389008dcbd9602c99921650a1a4f4b46d8", func := "loop.example/restaurantkitchen/laws.FnExactKitchenValid", spec := "fnExactKitchenValid", apart := false, narrowed := true }
def FnExactKitchenValidUptoSaid : Prop := fnExactKitchenValidUptoRow.holds Try.pinned (OpenSpec.upto fnExactKitchenValidSpec)

/-- 'laws.FnExactWorkLeft', WHERE WHAT IT READS IS OF BULK AT MOST 1048576: true; the input reads as it did. -/
def fnExactWorkLeftUptoRow : OpenClaim := { program := "ytocafinppjfeeaa", sum := "41eb5bdfc4f495ebaa75510847b97c389008dcbd9602c99921650a1a4f4b46d8", func := "loop.example/restaurantkitchen/laws.FnExactWorkLeft", spec := "fnExactWorkLeft", apart := false, narrowed := true }
def FnExactWorkLeftUptoSaid : Prop := fnExactWorkLeftUptoRow.holds Try.pinned (OpenSpec.upto fnExactWorkLeftSpec)

/-- 'laws.FnExactTicketDo', WHERE WHAT IT READS IS OF BULK AT MOST 1048576: true; the input reads as it did. -/
def fnExactTicketDoUptoRow : OpenClaim := { program := "ytocafinppjfeeaa", sum := "41eb5bdfc4f495ebaa75510847b97c389008dcbd9602c99921650a1a4f4b46d8", func := "loop.example/restaurantkitchen/laws.FnExactTicketDo", spec := "fnExactTicketDo", apart := false, narrowed := true }
def FnExactTicketDoUptoSaid : Prop := fnExactTicketDoUptoRow.holds Try.pinned (OpenSpec.upto fnExactTicketDoSpec)

/-- 'laws.FnExactTicketMay', WHERE WHAT IT READS IS OF BULK AT MOST 1048576: true; the input reads as it did. -/
def fnExactTicketMayUptoRow : OpenClaim := { program := "ytocafinppjfeeaa", sum := "41eb5bdfc4f495ebaa75510847b97c389008dcbd9602c99921650a1a4f4b46d8", func := "loop.example/restaurantkitchen/laws.FnExactTicketMay", spec := "fnExactTicketMay", apart := false, narrowed := true }
def FnExactTicketMayUptoSaid : Prop := fnExactTicketMayUptoRow.holds Try.pinned (OpenSpec.upto fnExactTicketMaySpec)

/-- 'laws.FnExactNextFire', WHERE WHAT IT READS IS OF BULK AT MOST 1048576: true; the input reads as it did. -/
def fnExactNextFireUptoRow : OpenClaim := { program := "ytocafinppjfeeaa", sum := "41eb5bdfc4f495ebaa75510847b97c389008dcbd9602c99921650a1a4f4b46d8", func := "loop.example/restaurantkitchen/laws.FnExactNextFire", spec := "fnExactNextFire", apart := false, narrowed := true }
def FnExactNextFireUptoSaid : Prop := fnExactNextFireUptoRow.holds Try.pinned (OpenSpec.upto fnExactNextFireSpec)

/-- 'laws.FnExactWorkStep', WHERE WHAT IT READS IS OF BULK AT MOST 1048576: true; the input reads as it did. -/
def fnExactWorkStepUptoRow : OpenClaim := { program := "ytocafinppjfeeaa", sum := "41eb5bdfc4f495ebaa75510847b97c389008dcbd9602c99921650a1a4f4b46d8", func := "loop.example/restaurantkitchen/laws.FnExactWorkStep", spec := "fnExactWorkStep", apart := false, narrowed := true }
def FnExactWorkStepUptoSaid : Prop := fnExactWorkStepUptoRow.holds Try.pinned (OpenSpec.upto fnExactWorkStepSpec)

/-- 'laws.FnExactWorkRun', WHERE WHAT IT READS IS OF BULK AT MOST 1048576: true; the input reads as it did. -/
def fnExactWorkRunUptoRow : OpenClaim := { program := "ytocafinppjfeeaa", sum := "41eb5bdfc4f495ebaa75510847b97c389008dcbd9602c99921650a1a4f4b46d8", func := "loop.example/restaurantkitchen/laws.FnExactWorkRun", spec := "fnExactWorkRun", apart := false, narrowed := true }
def FnExactWorkRunUptoSaid : Prop := fnExactWorkRunUptoRow.holds Try.pinned (OpenSpec.upto fnExactWorkRunSpec)

end Rows
end Go.Proofs.Ytocafinppjfeeaa
