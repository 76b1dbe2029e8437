/-
  NARROWER THAN 'FOR EVERY INPUT', by the rows' own cells (each row's printed sentence says how): FnTicketNew: laid · FnTicketValid: laid · FnTicketCourse: laid · FnKitchenValid: laid · FnTicketDo: laid · FnWorkLeft: laid · FnTicketMay: laid · FnNextFire: laid · FnTicketDone: laid · FnWorkStep: laid · FnWorkRun: laid.
  DERIVED. THE GIVEN ROWS OF THIS SEAT. 11 by the template 'for every input the law returns true; each argument reads behind the call as it read before'; 0 by the template 'total and deterministic' (their statements: YthbledeghanffaaDoorTotals.lean).
  GIVEN WITH THE SEED: the statements are not yours to turn. If you find one false, say at which input.
  Laid BY PROGRAM, IN A SANDBOX (cutbox-rows.mjs): the forced cells as the released guide's own fill.sh prints them over the translation 14dc5c59d10beb87… (all of the seat's roots in one cut). By AI agents, Wed Nov 11 2026. No macro, syntax, notation, axiom, sorry.
-/
import Derived.Test.YthbledeghanffaaDoorChecked
import GoSem.Claim
import GoSem.ClaimJoined
import GoSem.ClaimMapViews
import Derived.JoinedTies
import Derived.KernelRfl
namespace Go.Proofs.YthbledeghanffaaDoor
/- THE CELL 'sum', in the pinned program and in every row, IS THE sha256 OF THE DUMP (.gsa) THAT YthbledeghanffaaDoorProg.lean LOADS. Nothing in Lean hashes anything: it is a label: what it is worth is what the hold of that sum in a sandbox is worth. -/
noncomputable def Tryd.pinned : Pinned := { name := "ythbledeghanffaadoor", sum := "14dc5c59d10beb87d2ddb91426d393ca29fa1efabb0143f1e78c8f2ab5e4535e", checked := Tryd.checked }
namespace Rows
def none {H : Type} : Left H := { results := [], args := [] }

/- WHAT THE LISTED PACKAGE-LEVEL VARIABLES READ AS WHEN THE CALL BEGINS. Each datum BY PROGRAM (the guide's laid-datum.mjs) off the statement by which the dump's own 'gosem.cut.vars' lays the variable. In a bare row this is a premise. The card (YthbledeghanffaaDoorCards.lean) ties it to the program's text. -/
def laid_math_bits_deBruijn32tab {H : Type} : DataW H := .agg [.lit (.int .u8 0), .lit (.int .u8 1), .lit (.int .u8 28), .lit (.int .u8 2), .lit (.int .u8 29), .lit (.int .u8 14), .lit (.int .u8 24), .lit (.int .u8 3), .lit (.int .u8 30), .lit (.int .u8 22), .lit (.int .u8 20), .lit (.int .u8 15), .lit (.int .u8 25), .lit (.int .u8 17), .lit (.int .u8 4), .lit (.int .u8 8), .lit (.int .u8 31), .lit (.int .u8 27), .lit (.int .u8 13), .lit (.int .u8 23), .lit (.int .u8 21), .lit (.int .u8 19), .lit (.int .u8 16), .lit (.int .u8 7), .lit (.int .u8 26), .lit (.int .u8 12), .lit (.int .u8 18), .lit (.int .u8 6), .lit (.int .u8 11), .lit (.int .u8 5), .lit (.int .u8 10), .lit (.int .u8 9)]
def laid_math_bits_deBruijn64tab {H : Type} : DataW H := .agg [.lit (.int .u8 0), .lit (.int .u8 1), .lit (.int .u8 56), .lit (.int .u8 2), .lit (.int .u8 57), .lit (.int .u8 49), .lit (.int .u8 28), .lit (.int .u8 3), .lit (.int .u8 61), .lit (.int .u8 58), .lit (.int .u8 42), .lit (.int .u8 50), .lit (.int .u8 38), .lit (.int .u8 29), .lit (.int .u8 17), .lit (.int .u8 4), .lit (.int .u8 62), .lit (.int .u8 47), .lit (.int .u8 59), .lit (.int .u8 36), .lit (.int .u8 45), .lit (.int .u8 43), .lit (.int .u8 51), .lit (.int .u8 22), .lit (.int .u8 53), .lit (.int .u8 39), .lit (.int .u8 33), .lit (.int .u8 30), .lit (.int .u8 24), .lit (.int .u8 18), .lit (.int .u8 12), .lit (.int .u8 5), .lit (.int .u8 63), .lit (.int .u8 55), .lit (.int .u8 48), .lit (.int .u8 27), .lit (.int .u8 60), .lit (.int .u8 41), .lit (.int .u8 37), .lit (.int .u8 16), .lit (.int .u8 46), .lit (.int .u8 35), .lit (.int .u8 44), .lit (.int .u8 21), .lit (.int .u8 52), .lit (.int .u8 32), .lit (.int .u8 23), .lit (.int .u8 11), .lit (.int .u8 54), .lit (.int .u8 26), .lit (.int .u8 40), .lit (.int .u8 15), .lit (.int .u8 34), .lit (.int .u8 20), .lit (.int .u8 31), .lit (.int .u8 10), .lit (.int .u8 25), .lit (.int .u8 14), .lit (.int .u8 19), .lit (.int .u8 9), .lit (.int .u8 13), .lit (.int .u8 8), .lit (.int .u8 7), .lit (.int .u8 6)]
def laid_internal_strconv_uint64pow10 {H : Type} : DataW H := .agg [.lit (.int .u64 1), .lit (.int .u64 10), .lit (.int .u64 100), .lit (.int .u64 1000), .lit (.int .u64 10000), .lit (.int .u64 100000), .lit (.int .u64 1000000), .lit (.int .u64 10000000), .lit (.int .u64 100000000), .lit (.int .u64 1000000000), .lit (.int .u64 10000000000), .lit (.int .u64 100000000000), .lit (.int .u64 1000000000000), .lit (.int .u64 10000000000000), .lit (.int .u64 100000000000000), .lit (.int .u64 1000000000000000), .lit (.int .u64 10000000000000000), .lit (.int .u64 100000000000000000), .lit (.int .u64 1000000000000000000), .lit (.int .u64 10000000000000000000)]

/-- 'laws.FnTicketNew': WHATEVER THE INPUT: true; the input reads as it did. -/
def fnTicketNewSpec : ChangeSpec := { name := "fnTicketNew", fn := fun _ => fun
  | [d] => { results := [.lit (.bool true)], args := [d] }
  | _ => none }
def fnTicketNewRow : OpenClaim := { program := "ythbledeghanffaadoor", sum := "14dc5c59d10beb87d2ddb91426d393ca29fa1efabb0143f1e78c8f2ab5e4535e", func := "loop.example/restaurantkitchen/laws.FnTicketNew", spec := "fnTicketNew", inPlace := ["internal/abi.NoEscape"], named := ["internal/strconv.uint64pow10", "math/bits.deBruijn32tab", "math/bits.deBruijn64tab"], apart := false, laid := [("math/bits.deBruijn32tab", laid_math_bits_deBruijn32tab), ("math/bits.deBruijn64tab", laid_math_bits_deBruijn64tab), ("internal/strconv.uint64pow10", laid_internal_strconv_uint64pow10)] }
def FnTicketNewSaid : Prop := fnTicketNewRow.holds Tryd.pinned (OpenSpec.ofChange fnTicketNewSpec)

/-- ITS FALSE NEIGHBOUR: 'it returns false'. Refute it at one input. -/
def fnTicketNewWrong : ChangeSpec := { name := "fnTicketNew", fn := fun _ => fun
  | [d] => { results := [.lit (.bool false)], args := [d] }
  | _ => none }
def FnTicketNewWrongFalsely : Prop := fnTicketNewRow.holds Tryd.pinned (OpenSpec.ofChange fnTicketNewWrong)

/-- 'laws.FnTicketValid': WHATEVER THE INPUT: true; the input reads as it did. -/
def fnTicketValidSpec : ChangeSpec := { name := "fnTicketValid", fn := fun _ => fun
  | [d] => { results := [.lit (.bool true)], args := [d] }
  | _ => none }
def fnTicketValidRow : OpenClaim := { program := "ythbledeghanffaadoor", sum := "14dc5c59d10beb87d2ddb91426d393ca29fa1efabb0143f1e78c8f2ab5e4535e", func := "loop.example/restaurantkitchen/laws.FnTicketValid", spec := "fnTicketValid", inPlace := ["internal/abi.NoEscape"], named := ["internal/strconv.uint64pow10", "math/bits.deBruijn32tab", "math/bits.deBruijn64tab"], apart := false, laid := [("math/bits.deBruijn32tab", laid_math_bits_deBruijn32tab), ("math/bits.deBruijn64tab", laid_math_bits_deBruijn64tab), ("internal/strconv.uint64pow10", laid_internal_strconv_uint64pow10)] }
def FnTicketValidSaid : Prop := fnTicketValidRow.holds Tryd.pinned (OpenSpec.ofChange fnTicketValidSpec)

/-- ITS FALSE NEIGHBOUR: 'it returns false'. Refute it at one input. -/
def fnTicketValidWrong : ChangeSpec := { name := "fnTicketValid", fn := fun _ => fun
  | [d] => { results := [.lit (.bool false)], args := [d] }
  | _ => none }
def FnTicketValidWrongFalsely : Prop := fnTicketValidRow.holds Tryd.pinned (OpenSpec.ofChange fnTicketValidWrong)

/-- 'laws.FnTicketCourse': WHATEVER THE INPUT: true; the input reads as it did. -/
def fnTicketCourseSpec : ChangeSpec := { name := "fnTicketCourse", fn := fun _ => fun
  | [d] => { results := [.lit (.bool true)], args := [d] }
  | _ => none }
def fnTicketCourseRow : OpenClaim := { program := "ythbledeghanffaadoor", sum := "14dc5c59d10beb87d2ddb91426d393ca29fa1efabb0143f1e78c8f2ab5e4535e", func := "loop.example/restaurantkitchen/laws.FnTicketCourse", spec := "fnTicketCourse", inPlace := ["internal/abi.NoEscape"], named := ["internal/strconv.uint64pow10", "math/bits.deBruijn32tab", "math/bits.deBruijn64tab"], apart := false, laid := [("math/bits.deBruijn32tab", laid_math_bits_deBruijn32tab), ("math/bits.deBruijn64tab", laid_math_bits_deBruijn64tab), ("internal/strconv.uint64pow10", laid_internal_strconv_uint64pow10)] }
def FnTicketCourseSaid : Prop := fnTicketCourseRow.holds Tryd.pinned (OpenSpec.ofChange fnTicketCourseSpec)

/-- ITS FALSE NEIGHBOUR: 'it returns false'. Refute it at one input. -/
def fnTicketCourseWrong : ChangeSpec := { name := "fnTicketCourse", fn := fun _ => fun
  | [d] => { results := [.lit (.bool false)], args := [d] }
  | _ => none }
def FnTicketCourseWrongFalsely : Prop := fnTicketCourseRow.holds Tryd.pinned (OpenSpec.ofChange fnTicketCourseWrong)

/-- 'laws.FnKitchenValid': WHATEVER THE INPUT: true; the input reads as it did. -/
def fnKitchenValidSpec : ChangeSpec := { name := "fnKitchenValid", fn := fun _ => fun
  | [d] => { results := [.lit (.bool true)], args := [d] }
  | _ => none }
def fnKitchenValidRow : OpenClaim := { program := "ythbledeghanffaadoor", sum := "14dc5c59d10beb87d2ddb91426d393ca29fa1efabb0143f1e78c8f2ab5e4535e", func := "loop.example/restaurantkitchen/laws.FnKitchenValid", spec := "fnKitchenValid", inPlace := ["internal/abi.NoEscape"], named := ["internal/strconv.uint64pow10", "math/bits.deBruijn32tab", "math/bits.deBruijn64tab"], apart := false, laid := [("math/bits.deBruijn32tab", laid_math_bits_deBruijn32tab), ("math/bits.deBruijn64tab", laid_math_bits_deBruijn64tab), ("internal/strconv.uint64pow10", laid_internal_strconv_uint64pow10)] }
def FnKitchenValidSaid : Prop := fnKitchenValidRow.holds Tryd.pinned (OpenSpec.ofChange fnKitchenValidSpec)

/-- ITS FALSE NEIGHBOUR: 'it returns false'. Refute it at one input. -/
def fnKitchenValidWrong : ChangeSpec := { name := "fnKitchenValid", fn := fun _ => fun
  | [d] => { results := [.lit (.bool false)], args := [d] }
  | _ => none }
def FnKitchenValidWrongFalsely : Prop := fnKitchenValidRow.holds Tryd.pinned (OpenSpec.ofChange fnKitchenValidWrong)

/-- 'laws.FnTicketDo': WHATEVER THE INPUT: true; the input reads as it did. -/
def fnTicketDoSpec : ChangeSpec := { name := "fnTicketDo", fn := fun _ => fun
  | [d] => { results := [.lit (.bool true)], args := [d] }
  | _ => none }
def fnTicketDoRow : OpenClaim := { program := "ythbledeghanffaadoor", sum := "14dc5c59d10beb87d2ddb91426d393ca29fa1efabb0143f1e78c8f2ab5e4535e", func := "loop.example/restaurantkitchen/laws.FnTicketDo", spec := "fnTicketDo", inPlace := ["internal/abi.NoEscape"], named := ["internal/strconv.uint64pow10", "math/bits.deBruijn32tab", "math/bits.deBruijn64tab"], apart := false, laid := [("math/bits.deBruijn32tab", laid_math_bits_deBruijn32tab), ("math/bits.deBruijn64tab", laid_math_bits_deBruijn64tab), ("internal/strconv.uint64pow10", laid_internal_strconv_uint64pow10)] }
def FnTicketDoSaid : Prop := fnTicketDoRow.holds Tryd.pinned (OpenSpec.ofChange fnTicketDoSpec)

/-- ITS FALSE NEIGHBOUR: 'it returns false'. Refute it at one input. -/
def fnTicketDoWrong : ChangeSpec := { name := "fnTicketDo", fn := fun _ => fun
  | [d] => { results := [.lit (.bool false)], args := [d] }
  | _ => none }
def FnTicketDoWrongFalsely : Prop := fnTicketDoRow.holds Tryd.pinned (OpenSpec.ofChange fnTicketDoWrong)

/-- 'laws.FnWorkLeft': WHATEVER THE INPUT: true; the input reads as it did. -/
def fnWorkLeftSpec : ChangeSpec := { name := "fnWorkLeft", fn := fun _ => fun
  | [d] => { results := [.lit (.bool true)], args := [d] }
  | _ => none }
def fnWorkLeftRow : OpenClaim := { program := "ythbledeghanffaadoor", sum := "14dc5c59d10beb87d2ddb91426d393ca29fa1efabb0143f1e78c8f2ab5e4535e", func := "loop.example/restaurantkitchen/laws.FnWorkLeft", spec := "fnWorkLeft", inPlace := ["internal/abi.NoEscape"], named := ["internal/strconv.uint64pow10", "math/bits.deBruijn32tab", "math/bits.deBruijn64tab"], apart := false, laid := [("math/bits.deBruijn32tab", laid_math_bits_deBruijn32tab), ("math/bits.deBruijn64tab", laid_math_bits_deBruijn64tab), ("internal/strconv.uint64pow10", laid_internal_strconv_uint64pow10)] }
def FnWorkLeftSaid : Prop := fnWorkLeftRow.holds Tryd.pinned (OpenSpec.ofChange fnWorkLeftSpec)

/-- ITS FALSE NEIGHBOUR: 'it returns false'. Refute it at one input. -/
def fnWorkLeftWrong : ChangeSpec := { name := "fnWorkLeft", fn := fun _ => fun
  | [d] => { results := [.lit (.bool false)], args := [d] }
  | _ => none }
def FnWorkLeftWrongFalsely : Prop := fnWorkLeftRow.holds Tryd.pinned (OpenSpec.ofChange fnWorkLeftWrong)

/-- 'laws.FnTicketMay': WHATEVER THE INPUT: true; the input reads as it did. -/
def fnTicketMaySpec : ChangeSpec := { name := "fnTicketMay", fn := fun _ => fun
  | [d] => { results := [.lit (.bool true)], args := [d] }
  | _ => none }
def fnTicketMayRow : OpenClaim := { program := "ythbledeghanffaadoor", sum := "14dc5c59d10beb87d2ddb91426d393ca29fa1efabb0143f1e78c8f2ab5e4535e", func := "loop.example/restaurantkitchen/laws.FnTicketMay", spec := "fnTicketMay", inPlace := ["internal/abi.NoEscape"], named := ["internal/strconv.uint64pow10", "math/bits.deBruijn32tab", "math/bits.deBruijn64tab"], apart := false, laid := [("math/bits.deBruijn32tab", laid_math_bits_deBruijn32tab), ("math/bits.deBruijn64tab", laid_math_bits_deBruijn64tab), ("internal/strconv.uint64pow10", laid_internal_strconv_uint64pow10)] }
def FnTicketMaySaid : Prop := fnTicketMayRow.holds Tryd.pinned (OpenSpec.ofChange fnTicketMaySpec)

/-- ITS FALSE NEIGHBOUR: 'it returns false'. Refute it at one input. -/
def fnTicketMayWrong : ChangeSpec := { name := "fnTicketMay", fn := fun _ => fun
  | [d] => { results := [.lit (.bool false)], args := [d] }
  | _ => none }
def FnTicketMayWrongFalsely : Prop := fnTicketMayRow.holds Tryd.pinned (OpenSpec.ofChange fnTicketMayWrong)

/-- 'laws.FnNextFire': WHATEVER THE INPUT: true; the input reads as it did. -/
def fnNextFireSpec : ChangeSpec := { name := "fnNextFire", fn := fun _ => fun
  | [d] => { results := [.lit (.bool true)], args := [d] }
  | _ => none }
def fnNextFireRow : OpenClaim := { program := "ythbledeghanffaadoor", sum := "14dc5c59d10beb87d2ddb91426d393ca29fa1efabb0143f1e78c8f2ab5e4535e", func := "loop.example/restaurantkitchen/laws.FnNextFire", spec := "fnNextFire", inPlace := ["internal/abi.NoEscape"], named := ["internal/strconv.uint64pow10", "math/bits.deBruijn32tab", "math/bits.deBruijn64tab"], apart := false, laid := [("math/bits.deBruijn32tab", laid_math_bits_deBruijn32tab), ("math/bits.deBruijn64tab", laid_math_bits_deBruijn64tab), ("internal/strconv.uint64pow10", laid_internal_strconv_uint64pow10)] }
def FnNextFireSaid : Prop := fnNextFireRow.holds Tryd.pinned (OpenSpec.ofChange fnNextFireSpec)

/-- ITS FALSE NEIGHBOUR: 'it returns false'. Refute it at one input. -/
def fnNextFireWrong : ChangeSpec := { name := "fnNextFire", fn := fun _ => fun
  | [d] => { results := [.lit (.bool false)], args := [d] }
  | _ => none }
def FnNextFireWrongFalsely : Prop := fnNextFireRow.holds Tryd.pinned (OpenSpec.ofChange fnNextFireWrong)

/-- 'laws.FnTicketDone': WHATEVER THE INPUT: true; the input reads as it did. -/
def fnTicketDoneSpec : ChangeSpec := { name := "fnTicketDone", fn := fun _ => fun
  | [d] => { results := [.lit (.bool true)], args := [d] }
  | _ => none }
def fnTicketDoneRow : OpenClaim := { program := "ythbledeghanffaadoor", sum := "14dc5c59d10beb87d2ddb91426d393ca29fa1efabb0143f1e78c8f2ab5e4535e", func := "loop.example/restaurantkitchen/laws.FnTicketDone", spec := "fnTicketDone", inPlace := ["internal/abi.NoEscape"], named := ["internal/strconv.uint64pow10", "math/bits.deBruijn32tab", "math/bits.deBruijn64tab"], apart := false, laid := [("math/bits.deBruijn32tab", laid_math_bits_deBruijn32tab), ("math/bits.deBruijn64tab", laid_math_bits_deBruijn64tab), ("internal/strconv.uint64pow10", laid_internal_strconv_uint64pow10)] }
def FnTicketDoneSaid : Prop := fnTicketDoneRow.holds Tryd.pinned (OpenSpec.ofChange fnTicketDoneSpec)

/-- ITS FALSE NEIGHBOUR: 'it returns false'. Refute it at one input. -/
def fnTicketDoneWrong : ChangeSpec := { name := "fnTicketDone", fn := fun _ => fun
  | [d] => { results := [.lit (.bool false)], args := [d] }
  | _ => none }
def FnTicketDoneWrongFalsely : Prop := fnTicketDoneRow.holds Tryd.pinned (OpenSpec.ofChange fnTicketDoneWrong)

/-- 'laws.FnWorkStep': WHATEVER THE INPUT: true; the input reads as it did. -/
def fnWorkStepSpec : ChangeSpec := { name := "fnWorkStep", fn := fun _ => fun
  | [d] => { results := [.lit (.bool true)], args := [d] }
  | _ => none }
def fnWorkStepRow : OpenClaim := { program := "ythbledeghanffaadoor", sum := "14dc5c59d10beb87d2ddb91426d393ca29fa1efabb0143f1e78c8f2ab5e4535e", func := "loop.example/restaurantkitchen/laws.FnWorkStep", spec := "fnWorkStep", inPlace := ["internal/abi.NoEscape"], named := ["internal/strconv.uint64pow10", "math/bits.deBruijn32tab", "math/bits.deBruijn64tab"], apart := false, laid := [("math/bits.deBruijn32tab", laid_math_bits_deBruijn32tab), ("math/bits.deBruijn64tab", laid_math_bits_deBruijn64tab), ("internal/strconv.uint64pow10", laid_internal_strconv_uint64pow10)] }
def FnWorkStepSaid : Prop := fnWorkStepRow.holds Tryd.pinned (OpenSpec.ofChange fnWorkStepSpec)

/-- ITS FALSE NEIGHBOUR: 'it returns false'. Refute it at one input. -/
def fnWorkStepWrong : ChangeSpec := { name := "fnWorkStep", fn := fun _ => fun
  | [d] => { results := [.lit (.bool false)], args := [d] }
  | _ => none }
def FnWorkStepWrongFalsely : Prop := fnWorkStepRow.holds Tryd.pinned (OpenSpec.ofChange fnWorkStepWrong)

/-- 'laws.FnWorkRun': WHATEVER THE INPUT: true; the input reads as it did. -/
def fnWorkRunSpec : ChangeSpec := { name := "fnWorkRun", fn := fun _ => fun
  | [d] => { results := [.lit (.bool true)], args := [d] }
  | _ => none }
def fnWorkRunRow : OpenClaim := { program := "ythbledeghanffaadoor", sum := "14dc5c59d10beb87d2ddb91426d393ca29fa1efabb0143f1e78c8f2ab5e4535e", func := "loop.example/restaurantkitchen/laws.FnWorkRun", spec := "fnWorkRun", inPlace := ["internal/abi.NoEscape"], named := ["internal/strconv.uint64pow10", "math/bits.deBruijn32tab", "math/bits.deBruijn64tab"], apart := false, laid := [("math/bits.deBruijn32tab", laid_math_bits_deBruijn32tab), ("math/bits.deBruijn64tab", laid_math_bits_deBruijn64tab), ("internal/strconv.uint64pow10", laid_internal_strconv_uint64pow10)] }
def FnWorkRunSaid : Prop := fnWorkRunRow.holds Tryd.pinned (OpenSpec.ofChange fnWorkRunSpec)

/-- ITS FALSE NEIGHBOUR: 'it returns false'. Refute it at one input. -/
def fnWorkRunWrong : ChangeSpec := { name := "fnWorkRun", fn := fun _ => fun
  | [d] => { results := [.lit (.bool false)], args := [d] }
  | _ => none }
def FnWorkRunWrongFalsely : Prop := fnWorkRunRow.holds Tryd.pinned (OpenSpec.ofChange fnWorkRunWrong)

/- THE SECOND FORM. 'bulk': how many values and letters a reading holds, each counted each time it is reached (what is shared counts as often as it is met; a slice's spare places count too). A statement '..UptoSaid' is the law's where the arguments, and the package variables that the reading takes, are together of bulk at most 1048576: NARROWER than '..Said'. Prove '..Said' where nothing that the law and all that it calls make is longer than what came in: it says more and counts as full. Else prove '..UptoSaid'. A law counts once. -/
mutual
def uptoBulk {H : Type} : DataW H → Nat
  | .lit (.string bytes) => bytes.length + 1
  | .lit _ => 1
  | .nil => 1
  | .ptr d => uptoBulk d + 1
  | .slice elems spare => uptoBulkAll elems + uptoBulkAll spare + 1
  | .agg parts => uptoBulkAll parts + 1
  | .iface _ d => uptoBulk d + 1
  | .map entries => uptoBulkEntries entries + 1
  | .held _ => 1
def uptoBulkAll {H : Type} : List (DataW H) → Nat
  | [] => 0
  | d :: r => uptoBulk d + uptoBulkAll r
def uptoBulkEntries {H : Type} : List (Lit × DataW H) → Nat
  | [] => 0
  | x :: r => uptoBulkEntry x + uptoBulkEntries r
def uptoBulkEntry {H : Type} : Lit × DataW H → Nat
  | (.string bytes, d) => bytes.length + uptoBulk d + 1
  | (_, d) => uptoBulk d + 1
 end
def uptoSmall : (H : Type) → List (DataW H) → Bool := fun _ ds => decide (uptoBulkAll ds ≤ 1048576)
def OpenSpec.upto (s : _root_.Go.ChangeSpec) : _root_.Go.OpenSpec := { _root_.Go.OpenSpec.ofChange s with cond := some uptoSmall }

/-- 'laws.FnTicketNew', WHERE WHAT IT READS IS OF BULK AT MOST 1048576: true; the input reads as it did. -/
def fnTicketNewUptoRow : OpenClaim := { program := "ythbledeghanffaadoor", sum := "14dc5c59d10beb87d2ddb91426d393ca29fa1efabb0143f1e78c8f2ab5e4535e", func := "loop.example/restaurantkitchen/laws.FnTicketNew", spec := "fnTicketNew", inPlace := ["internal/abi.NoEscape"], named := ["internal/strconv.uint64pow10", "math/bits.deBruijn32tab", "math/bits.deBruijn64tab"], apart := false, laid := [("math/bits.deBruijn32tab", laid_math_bits_deBruijn32tab), ("math/bits.deBruijn64tab", laid_math_bits_deBruijn64tab), ("internal/strconv.uint64pow10", laid_internal_strconv_uint64pow10)], narrowed := true }
def FnTicketNewUptoSaid : Prop := fnTicketNewUptoRow.holds Tryd.pinned (OpenSpec.upto fnTicketNewSpec)

/-- 'laws.FnTicketValid', WHERE WHAT IT READS IS OF BULK AT MOST 1048576: true; the input reads as it did. -/
def fnTicketValidUptoRow : OpenClaim := { program := "ythbledeghanffaadoor", sum := "14dc5c59d10beb87d2ddb91426d393ca29fa1efabb0143f1e78c8f2ab5e4535e", func := "loop.example/restaurantkitchen/laws.FnTicketValid", spec := "fnTicketValid", inPlace := ["internal/abi.NoEscape"], named := ["internal/strconv.uint64pow10", "math/bits.deBruijn32tab", "math/bits.deBruijn64tab"], apart := false, laid := [("math/bits.deBruijn32tab", laid_math_bits_deBruijn32tab), ("math/bits.deBruijn64tab", laid_math_bits_deBruijn64tab), ("internal/strconv.uint64pow10", laid_internal_strconv_uint64pow10)], narrowed := true }
def FnTicketValidUptoSaid : Prop := fnTicketValidUptoRow.holds Tryd.pinned (OpenSpec.upto fnTicketValidSpec)

/-- 'laws.FnTicketCourse', WHERE WHAT IT READS IS OF BULK AT MOST 1048576: true; the input reads as it did. -/
def fnTicketCourseUptoRow : OpenClaim := { program := "ythbledeghanffaadoor", sum := "14dc5c59d10beb87d2ddb91426d393ca29fa1efabb0143f1e78c8f2ab5e4535e", func := "loop.example/restaurantkitchen/laws.FnTicketCourse", spec := "fnTicketCourse", inPlace := ["internal/abi.NoEscape"], named := ["internal/strconv.uint64pow10", "math/bits.deBruijn32tab", "math/bits.deBruijn64tab"], apart := false, laid := [("math/bits.deBruijn32tab", laid_math_bits_deBruijn32tab), ("math/bits.deBruijn64tab", laid_math_bits_deBruijn64tab), ("internal/strconv.uint64pow10", laid_internal_strconv_uint64pow10)], narrowed := true }
def FnTicketCourseUptoSaid : Prop := fnTicketCourseUptoRow.holds Tryd.pinned (OpenSpec.upto fnTicketCourseSpec)

/-- 'laws.FnKitchenValid', WHERE WHAT IT READS IS OF BULK AT MOST 1048576: true; the input reads as it did. -/
def fnKitchenValidUptoRow : OpenClaim := { program := "ythbledeghanffaadoor", sum := "14dc5c59d10beb87d2ddb91426d393ca29fa1efabb0143f1e78c8f2ab5e4535e", func := "loop.example/restaurantkitchen/laws.FnKitchenValid", spec := "fnKitchenValid", inPlace := ["internal/abi.NoEscape"], named := ["internal/strconv.uint64pow10", "math/bits.deBruijn32tab", "math/bits.deBruijn64tab"], apart := false, laid := [("math/bits.deBruijn32tab", laid_math_bits_deBruijn32tab), ("math/bits.deBruijn64tab", laid_math_bits_deBruijn64tab), ("internal/strconv.uint64pow10", laid_internal_strconv_uint64pow10)], narrowed := true }
def FnKitchenValidUptoSaid : Prop := fnKitchenValidUptoRow.holds Tryd.pinned (OpenSpec.upto fnKitchenValidSpec)

/-- 'laws.FnTicketDo', WHERE WHAT IT READS IS OF BULK AT MOST 1048576: true; the input reads as it did. -/
def fnTicketDoUptoRow : OpenClaim := { program := "ythbledeghanffaadoor", sum := "14dc5c59d10beb87d2ddb91426d393ca29fa1efabb0143f1e78c8f2ab5e4535e", func := "loop.example/restaurantkitchen/laws.FnTicketDo", spec := "fnTicketDo", inPlace := ["internal/abi.NoEscape"], named := ["internal/strconv.uint64pow10", "math/bits.deBruijn32tab", "math/bits.deBruijn64tab"], apart := false, laid := [("math/bits.deBruijn32tab", laid_math_bits_deBruijn32tab), ("math/bits.deBruijn64tab", laid_math_bits_deBruijn64tab), ("internal/strconv.uint64pow10", laid_internal_strconv_uint64pow10)], narrowed := true }
def FnTicketDoUptoSaid : Prop := fnTicketDoUptoRow.holds Tryd.pinned (OpenSpec.upto fnTicketDoSpec)

/-- 'laws.FnWorkLeft', WHERE WHAT IT READS IS OF BULK AT MOST 1048576: true; the input reads as it did. -/
def fnWorkLeftUptoRow : OpenClaim := { program := "ythbledeghanffaadoor", sum := "14dc5c59d10beb87d2ddb91426d393ca29fa1efabb0143f1e78c8f2ab5e4535e", func := "loop.example/restaurantkitchen/laws.FnWorkLeft", spec := "fnWorkLeft", inPlace := ["internal/abi.NoEscape"], named := ["internal/strconv.uint64pow10", "math/bits.deBruijn32tab", "math/bits.deBruijn64tab"], apart := false, laid := [("math/bits.deBruijn32tab", laid_math_bits_deBruijn32tab), ("math/bits.deBruijn64tab", laid_math_bits_deBruijn64tab), ("internal/strconv.uint64pow10", laid_internal_strconv_uint64pow10)], narrowed := true }
def FnWorkLeftUptoSaid : Prop := fnWorkLeftUptoRow.holds Tryd.pinned (OpenSpec.upto fnWorkLeftSpec)

/-- 'laws.FnTicketMay', WHERE WHAT IT READS IS OF BULK AT MOST 1048576: true; the input reads as it did. -/
def fnTicketMayUptoRow : OpenClaim := { program := "ythbledeghanffaadoor", sum := "14dc5c59d10beb87d2ddb91426d393ca29fa1efabb0143f1e78c8f2ab5e4535e", func := "loop.example/restaurantkitchen/laws.FnTicketMay", spec := "fnTicketMay", inPlace := ["internal/abi.NoEscape"], named := ["internal/strconv.uint64pow10", "math/bits.deBruijn32tab", "math/bits.deBruijn64tab"], apart := false, laid := [("math/bits.deBruijn32tab", laid_math_bits_deBruijn32tab), ("math/bits.deBruijn64tab", laid_math_bits_deBruijn64tab), ("internal/strconv.uint64pow10", laid_internal_strconv_uint64pow10)], narrowed := true }
def FnTicketMayUptoSaid : Prop := fnTicketMayUptoRow.holds Tryd.pinned (OpenSpec.upto fnTicketMaySpec)

/-- 'laws.FnNextFire', WHERE WHAT IT READS IS OF BULK AT MOST 1048576: true; the input reads as it did. -/
def fnNextFireUptoRow : OpenClaim := { program := "ythbledeghanffaadoor", sum := "14dc5c59d10beb87d2ddb91426d393ca29fa1efabb0143f1e78c8f2ab5e4535e", func := "loop.example/restaurantkitchen/laws.FnNextFire", spec := "fnNextFire", inPlace := ["internal/abi.NoEscape"], named := ["internal/strconv.uint64pow10", "math/bits.deBruijn32tab", "math/bits.deBruijn64tab"], apart := false, laid := [("math/bits.deBruijn32tab", laid_math_bits_deBruijn32tab), ("math/bits.deBruijn64tab", laid_math_bits_deBruijn64tab), ("internal/strconv.uint64pow10", laid_internal_strconv_uint64pow10)], narrowed := true }
def FnNextFireUptoSaid : Prop := fnNextFireUptoRow.holds Tryd.pinned (OpenSpec.upto fnNextFireSpec)

/-- 'laws.FnTicketDone', WHERE WHAT IT READS IS OF BULK AT MOST 1048576: true; the input reads as it did. -/
def fnTicketDoneUptoRow : OpenClaim := { program := "ythbledeghanffaadoor", sum := "14dc5c59d10beb87d2ddb91426d393ca29fa1efabb0143f1e78c8f2ab5e4535e", func := "loop.example/restaurantkitchen/laws.FnTicketDone", spec := "fnTicketDone", inPlace := ["internal/abi.NoEscape"], named := ["internal/strconv.uint64pow10", "math/bits.deBruijn32tab", "math/bits.deBruijn64tab"], apart := false, laid := [("math/bits.deBruijn32tab", laid_math_bits_deBruijn32tab), ("math/bits.deBruijn64tab", laid_math_bits_deBruijn64tab), ("internal/strconv.uint64pow10", laid_internal_strconv_uint64pow10)], narrowed := true }
def FnTicketDoneUptoSaid : Prop := fnTicketDoneUptoRow.holds Tryd.pinned (OpenSpec.upto fnTicketDoneSpec)

/-- 'laws.FnWorkStep', WHERE WHAT IT READS IS OF BULK AT MOST 1048576: true; the input reads as it did. -/
def fnWorkStepUptoRow : OpenClaim := { program := "ythbledeghanffaadoor", sum := "14dc5c59d10beb87d2ddb91426d393ca29fa1efabb0143f1e78c8f2ab5e4535e", func := "loop.example/restaurantkitchen/laws.FnWorkStep", spec := "fnWorkStep", inPlace := ["internal/abi.NoEscape"], named := ["internal/strconv.uint64pow10", "math/bits.deBruijn32tab", "math/bits.deBruijn64tab"], apart := false, laid := [("math/bits.deBruijn32tab", laid_math_bits_deBruijn32tab), ("math/bits.deBruijn64tab", laid_math_bits_deBruijn64tab), ("internal/strconv.uint64pow10", laid_internal_strconv_uint64pow10)], narrowed := true }
def FnWorkStepUptoSaid : Prop := fnWorkStepUptoRow.holds Tryd.pinned (OpenSpec.upto fnWorkStepSpec)

/-- 'laws.FnWorkRun', WHERE WHAT IT READS IS OF BULK AT MOST 1048576: true; the input reads as it did. -/
def fnWorkRunUptoRow : OpenClaim := { program := "ythbledeghanffaadoor", sum := "14dc5c59d10beb87d2ddb91426d393ca29fa1efabb0143f1e78c8f2ab5e4535e", func := "loop.example/restaurantkitchen/laws.FnWorkRun", spec := "fnWorkRun", inPlace := ["internal/abi.NoEscape"], named := ["internal/strconv.uint64pow10", "math/bits.deBruijn32tab", "math/bits.deBruijn64tab"], apart := false, laid := [("math/bits.deBruijn32tab", laid_math_bits_deBruijn32tab), ("math/bits.deBruijn64tab", laid_math_bits_deBruijn64tab), ("internal/strconv.uint64pow10", laid_internal_strconv_uint64pow10)], narrowed := true }
def FnWorkRunUptoSaid : Prop := fnWorkRunUptoRow.holds Tryd.pinned (OpenSpec.upto fnWorkRunSpec)

end Rows
end Go.Proofs.YthbledeghanffaaDoor
