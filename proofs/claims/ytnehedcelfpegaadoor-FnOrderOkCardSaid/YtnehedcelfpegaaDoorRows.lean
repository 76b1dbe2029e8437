/-
  NARROWER THAN 'FOR EVERY INPUT', by the rows' own cells (each row's printed sentence says how): FnSpansValid: laid · FnDishesValid: laid · FnOrderOk: laid · FnFlowEnds: laid · FnTogetherBest: laid · FnTogetherWaits: laid · FnFlowBest: laid · FnFlowEnd: laid · FnFlowLeast: laid.
  DERIVED. THE GIVEN ROWS OF THIS SEAT. 9 by the template 'for every input the law returns true; each argument reads behind the call as it read before'; 0 by the template 'total and deterministic' (their statements: YtnehedcelfpegaaDoorTotals.lean).
  GIVEN WITH THE SEED: the statements are not yours to turn. If you find one false, say at which input.
  Laid BY PROGRAM, IN A SANDBOX (cutbox-rows.mjs): the forced cells as the released guide's own fill.sh prints them over the translation c575c487f43136c1… (all of the seat's roots in one cut). By AI agents, Wed Nov 11 2026. No macro, syntax, notation, axiom, sorry.
-/
import Derived.Test.YtnehedcelfpegaaDoorChecked
import GoSem.Claim
import GoSem.ClaimJoined
import GoSem.ClaimMapViews
import Derived.JoinedTies
import Derived.KernelRfl
namespace Go.Proofs.YtnehedcelfpegaaDoor
/- THE CELL 'sum', in the pinned program and in every row, IS THE sha256 OF THE DUMP (.gsa) THAT YtnehedcelfpegaaDoorProg.lean LOADS. Nothing in Lean hashes anything: it is a label: what it is worth is what the hold of that sum in a sandbox is worth. -/
noncomputable def Tryd.pinned : Pinned := { name := "ytnehedcelfpegaadoor", sum := "c575c487f43136c1d446cfebef6d136fe4a0c7b8d0363138aba5623d645539ab", checked := Tryd.checked }
namespace Rows
def none {H : Type} : Left H := { results := [], args := [] }

/- WHAT THE LISTED PACKAGE-LEVEL VARIABLES READ AS WHEN THE CALL BEGINS. Each datum BY PROGRAM (the guide's laid-datum.mjs) off the statement by which the dump's own 'gosem.cut.vars' lays the variable. In a bare row this is a premise. The card (YtnehedcelfpegaaDoorCards.lean) ties it to the program's text. -/
def laid_math_bits_deBruijn32tab {H : Type} : DataW H := .agg [.lit (.int .u8 0), .lit (.int .u8 1), .lit (.int .u8 28), .lit (.int .u8 2), .lit (.int .u8 29), .lit (.int .u8 14), .lit (.int .u8 24), .lit (.int .u8 3), .lit (.int .u8 30), .lit (.int .u8 22), .lit (.int .u8 20), .lit (.int .u8 15), .lit (.int .u8 25), .lit (.int .u8 17), .lit (.int .u8 4), .lit (.int .u8 8), .lit (.int .u8 31), .lit (.int .u8 27), .lit (.int .u8 13), .lit (.int .u8 23), .lit (.int .u8 21), .lit (.int .u8 19), .lit (.int .u8 16), .lit (.int .u8 7), .lit (.int .u8 26), .lit (.int .u8 12), .lit (.int .u8 18), .lit (.int .u8 6), .lit (.int .u8 11), .lit (.int .u8 5), .lit (.int .u8 10), .lit (.int .u8 9)]
def laid_math_bits_deBruijn64tab {H : Type} : DataW H := .agg [.lit (.int .u8 0), .lit (.int .u8 1), .lit (.int .u8 56), .lit (.int .u8 2), .lit (.int .u8 57), .lit (.int .u8 49), .lit (.int .u8 28), .lit (.int .u8 3), .lit (.int .u8 61), .lit (.int .u8 58), .lit (.int .u8 42), .lit (.int .u8 50), .lit (.int .u8 38), .lit (.int .u8 29), .lit (.int .u8 17), .lit (.int .u8 4), .lit (.int .u8 62), .lit (.int .u8 47), .lit (.int .u8 59), .lit (.int .u8 36), .lit (.int .u8 45), .lit (.int .u8 43), .lit (.int .u8 51), .lit (.int .u8 22), .lit (.int .u8 53), .lit (.int .u8 39), .lit (.int .u8 33), .lit (.int .u8 30), .lit (.int .u8 24), .lit (.int .u8 18), .lit (.int .u8 12), .lit (.int .u8 5), .lit (.int .u8 63), .lit (.int .u8 55), .lit (.int .u8 48), .lit (.int .u8 27), .lit (.int .u8 60), .lit (.int .u8 41), .lit (.int .u8 37), .lit (.int .u8 16), .lit (.int .u8 46), .lit (.int .u8 35), .lit (.int .u8 44), .lit (.int .u8 21), .lit (.int .u8 52), .lit (.int .u8 32), .lit (.int .u8 23), .lit (.int .u8 11), .lit (.int .u8 54), .lit (.int .u8 26), .lit (.int .u8 40), .lit (.int .u8 15), .lit (.int .u8 34), .lit (.int .u8 20), .lit (.int .u8 31), .lit (.int .u8 10), .lit (.int .u8 25), .lit (.int .u8 14), .lit (.int .u8 19), .lit (.int .u8 9), .lit (.int .u8 13), .lit (.int .u8 8), .lit (.int .u8 7), .lit (.int .u8 6)]
def laid_internal_strconv_uint64pow10 {H : Type} : DataW H := .agg [.lit (.int .u64 1), .lit (.int .u64 10), .lit (.int .u64 100), .lit (.int .u64 1000), .lit (.int .u64 10000), .lit (.int .u64 100000), .lit (.int .u64 1000000), .lit (.int .u64 10000000), .lit (.int .u64 100000000), .lit (.int .u64 1000000000), .lit (.int .u64 10000000000), .lit (.int .u64 100000000000), .lit (.int .u64 1000000000000), .lit (.int .u64 10000000000000), .lit (.int .u64 100000000000000), .lit (.int .u64 1000000000000000), .lit (.int .u64 10000000000000000), .lit (.int .u64 100000000000000000), .lit (.int .u64 1000000000000000000), .lit (.int .u64 10000000000000000000)]

/-- 'laws.FnSpansValid': WHATEVER THE INPUT: true; the input reads as it did. -/
def fnSpansValidSpec : ChangeSpec := { name := "fnSpansValid", fn := fun _ => fun
  | [d] => { results := [.lit (.bool true)], args := [d] }
  | _ => none }
def fnSpansValidRow : OpenClaim := { program := "ytnehedcelfpegaadoor", sum := "c575c487f43136c1d446cfebef6d136fe4a0c7b8d0363138aba5623d645539ab", func := "loop.example/restaurantkitchen/laws.FnSpansValid", spec := "fnSpansValid", inPlace := ["internal/abi.NoEscape"], named := ["internal/strconv.uint64pow10", "math/bits.deBruijn32tab", "math/bits.deBruijn64tab"], apart := false, laid := [("math/bits.deBruijn32tab", laid_math_bits_deBruijn32tab), ("math/bits.deBruijn64tab", laid_math_bits_deBruijn64tab), ("internal/strconv.uint64pow10", laid_internal_strconv_uint64pow10)] }
def FnSpansValidSaid : Prop := fnSpansValidRow.holds Tryd.pinned (OpenSpec.ofChange fnSpansValidSpec)

/-- ITS FALSE NEIGHBOUR: 'it returns false'. Refute it at one input. -/
def fnSpansValidWrong : ChangeSpec := { name := "fnSpansValid", fn := fun _ => fun
  | [d] => { results := [.lit (.bool false)], args := [d] }
  | _ => none }
def FnSpansValidWrongFalsely : Prop := fnSpansValidRow.holds Tryd.pinned (OpenSpec.ofChange fnSpansValidWrong)

/-- 'laws.FnDishesValid': WHATEVER THE INPUT: true; the input reads as it did. -/
def fnDishesValidSpec : ChangeSpec := { name := "fnDishesValid", fn := fun _ => fun
  | [d] => { results := [.lit (.bool true)], args := [d] }
  | _ => none }
def fnDishesValidRow : OpenClaim := { program := "ytnehedcelfpegaadoor", sum := "c575c487f43136c1d446cfebef6d136fe4a0c7b8d0363138aba5623d645539ab", func := "loop.example/restaurantkitchen/laws.FnDishesValid", spec := "fnDishesValid", inPlace := ["internal/abi.NoEscape"], named := ["internal/strconv.uint64pow10", "math/bits.deBruijn32tab", "math/bits.deBruijn64tab"], apart := false, laid := [("math/bits.deBruijn32tab", laid_math_bits_deBruijn32tab), ("math/bits.deBruijn64tab", laid_math_bits_deBruijn64tab), ("internal/strconv.uint64pow10", laid_internal_strconv_uint64pow10)] }
def FnDishesValidSaid : Prop := fnDishesValidRow.holds Tryd.pinned (OpenSpec.ofChange fnDishesValidSpec)

/-- ITS FALSE NEIGHBOUR: 'it returns false'. Refute it at one input. -/
def fnDishesValidWrong : ChangeSpec := { name := "fnDishesValid", fn := fun _ => fun
  | [d] => { results := [.lit (.bool false)], args := [d] }
  | _ => none }
def FnDishesValidWrongFalsely : Prop := fnDishesValidRow.holds Tryd.pinned (OpenSpec.ofChange fnDishesValidWrong)

/-- 'laws.FnOrderOk': WHATEVER THE INPUT: true; the input reads as it did. -/
def fnOrderOkSpec : ChangeSpec := { name := "fnOrderOk", fn := fun _ => fun
  | [d] => { results := [.lit (.bool true)], args := [d] }
  | _ => none }
def fnOrderOkRow : OpenClaim := { program := "ytnehedcelfpegaadoor", sum := "c575c487f43136c1d446cfebef6d136fe4a0c7b8d0363138aba5623d645539ab", func := "loop.example/restaurantkitchen/laws.FnOrderOk", spec := "fnOrderOk", inPlace := ["internal/abi.NoEscape"], named := ["internal/strconv.uint64pow10", "math/bits.deBruijn32tab", "math/bits.deBruijn64tab"], apart := false, laid := [("math/bits.deBruijn32tab", laid_math_bits_deBruijn32tab), ("math/bits.deBruijn64tab", laid_math_bits_deBruijn64tab), ("internal/strconv.uint64pow10", laid_internal_strconv_uint64pow10)] }
def FnOrderOkSaid : Prop := fnOrderOkRow.holds Tryd.pinned (OpenSpec.ofChange fnOrderOkSpec)

/-- ITS FALSE NEIGHBOUR: 'it returns false'. Refute it at one input. -/
def fnOrderOkWrong : ChangeSpec := { name := "fnOrderOk", fn := fun _ => fun
  | [d] => { results := [.lit (.bool false)], args := [d] }
  | _ => none }
def FnOrderOkWrongFalsely : Prop := fnOrderOkRow.holds Tryd.pinned (OpenSpec.ofChange fnOrderOkWrong)

/-- 'laws.FnFlowEnds': WHATEVER THE INPUT: true; the input reads as it did. -/
def fnFlowEndsSpec : ChangeSpec := { name := "fnFlowEnds", fn := fun _ => fun
  | [d] => { results := [.lit (.bool true)], args := [d] }
  | _ => none }
def fnFlowEndsRow : OpenClaim := { program := "ytnehedcelfpegaadoor", sum := "c575c487f43136c1d446cfebef6d136fe4a0c7b8d0363138aba5623d645539ab", func := "loop.example/restaurantkitchen/laws.FnFlowEnds", spec := "fnFlowEnds", inPlace := ["internal/abi.NoEscape"], named := ["internal/strconv.uint64pow10", "math/bits.deBruijn32tab", "math/bits.deBruijn64tab"], apart := false, laid := [("math/bits.deBruijn32tab", laid_math_bits_deBruijn32tab), ("math/bits.deBruijn64tab", laid_math_bits_deBruijn64tab), ("internal/strconv.uint64pow10", laid_internal_strconv_uint64pow10)] }
def FnFlowEndsSaid : Prop := fnFlowEndsRow.holds Tryd.pinned (OpenSpec.ofChange fnFlowEndsSpec)

/-- ITS FALSE NEIGHBOUR: 'it returns false'. Refute it at one input. -/
def fnFlowEndsWrong : ChangeSpec := { name := "fnFlowEnds", fn := fun _ => fun
  | [d] => { results := [.lit (.bool false)], args := [d] }
  | _ => none }
def FnFlowEndsWrongFalsely : Prop := fnFlowEndsRow.holds Tryd.pinned (OpenSpec.ofChange fnFlowEndsWrong)

/-- 'laws.FnTogetherBest': WHATEVER THE INPUT: true; the input reads as it did. -/
def fnTogetherBestSpec : ChangeSpec := { name := "fnTogetherBest", fn := fun _ => fun
  | [d] => { results := [.lit (.bool true)], args := [d] }
  | _ => none }
def fnTogetherBestRow : OpenClaim := { program := "ytnehedcelfpegaadoor", sum := "c575c487f43136c1d446cfebef6d136fe4a0c7b8d0363138aba5623d645539ab", func := "loop.example/restaurantkitchen/laws.FnTogetherBest", spec := "fnTogetherBest", inPlace := ["internal/abi.NoEscape"], unfollowed := true, recurses := true, named := ["internal/strconv.uint64pow10", "math/bits.deBruijn32tab", "math/bits.deBruijn64tab"], apart := false, laid := [("math/bits.deBruijn32tab", laid_math_bits_deBruijn32tab), ("math/bits.deBruijn64tab", laid_math_bits_deBruijn64tab), ("internal/strconv.uint64pow10", laid_internal_strconv_uint64pow10)] }
def FnTogetherBestSaid : Prop := fnTogetherBestRow.holds Tryd.pinned (OpenSpec.ofChange fnTogetherBestSpec)

/-- ITS FALSE NEIGHBOUR: 'it returns false'. Refute it at one input. -/
def fnTogetherBestWrong : ChangeSpec := { name := "fnTogetherBest", fn := fun _ => fun
  | [d] => { results := [.lit (.bool false)], args := [d] }
  | _ => none }
def FnTogetherBestWrongFalsely : Prop := fnTogetherBestRow.holds Tryd.pinned (OpenSpec.ofChange fnTogetherBestWrong)

/-- 'laws.FnTogetherWaits': WHATEVER THE INPUT: true; the input reads as it did. -/
def fnTogetherWaitsSpec : ChangeSpec := { name := "fnTogetherWaits", fn := fun _ => fun
  | [d] => { results := [.lit (.bool true)], args := [d] }
  | _ => none }
def fnTogetherWaitsRow : OpenClaim := { program := "ytnehedcelfpegaadoor", sum := "c575c487f43136c1d446cfebef6d136fe4a0c7b8d0363138aba5623d645539ab", func := "loop.example/restaurantkitchen/laws.FnTogetherWaits", spec := "fnTogetherWaits", inPlace := ["internal/abi.NoEscape"], unfollowed := true, recurses := true, named := ["internal/strconv.uint64pow10", "math/bits.deBruijn32tab", "math/bits.deBruijn64tab"], apart := false, laid := [("math/bits.deBruijn32tab", laid_math_bits_deBruijn32tab), ("math/bits.deBruijn64tab", laid_math_bits_deBruijn64tab), ("internal/strconv.uint64pow10", laid_internal_strconv_uint64pow10)] }
def FnTogetherWaitsSaid : Prop := fnTogetherWaitsRow.holds Tryd.pinned (OpenSpec.ofChange fnTogetherWaitsSpec)

/-- ITS FALSE NEIGHBOUR: 'it returns false'. Refute it at one input. -/
def fnTogetherWaitsWrong : ChangeSpec := { name := "fnTogetherWaits", fn := fun _ => fun
  | [d] => { results := [.lit (.bool false)], args := [d] }
  | _ => none }
def FnTogetherWaitsWrongFalsely : Prop := fnTogetherWaitsRow.holds Tryd.pinned (OpenSpec.ofChange fnTogetherWaitsWrong)

/-- 'laws.FnFlowBest': WHATEVER THE INPUT: true; the input reads as it did. -/
def fnFlowBestSpec : ChangeSpec := { name := "fnFlowBest", fn := fun _ => fun
  | [d] => { results := [.lit (.bool true)], args := [d] }
  | _ => none }
def fnFlowBestRow : OpenClaim := { program := "ytnehedcelfpegaadoor", sum := "c575c487f43136c1d446cfebef6d136fe4a0c7b8d0363138aba5623d645539ab", func := "loop.example/restaurantkitchen/laws.FnFlowBest", spec := "fnFlowBest", inPlace := ["internal/abi.NoEscape"], unfollowed := true, recurses := true, named := ["internal/strconv.uint64pow10", "math/bits.deBruijn32tab", "math/bits.deBruijn64tab"], apart := false, laid := [("math/bits.deBruijn32tab", laid_math_bits_deBruijn32tab), ("math/bits.deBruijn64tab", laid_math_bits_deBruijn64tab), ("internal/strconv.uint64pow10", laid_internal_strconv_uint64pow10)] }
def FnFlowBestSaid : Prop := fnFlowBestRow.holds Tryd.pinned (OpenSpec.ofChange fnFlowBestSpec)

/-- ITS FALSE NEIGHBOUR: 'it returns false'. Refute it at one input. -/
def fnFlowBestWrong : ChangeSpec := { name := "fnFlowBest", fn := fun _ => fun
  | [d] => { results := [.lit (.bool false)], args := [d] }
  | _ => none }
def FnFlowBestWrongFalsely : Prop := fnFlowBestRow.holds Tryd.pinned (OpenSpec.ofChange fnFlowBestWrong)

/-- 'laws.FnFlowEnd': WHATEVER THE INPUT: true; the input reads as it did. -/
def fnFlowEndSpec : ChangeSpec := { name := "fnFlowEnd", fn := fun _ => fun
  | [d] => { results := [.lit (.bool true)], args := [d] }
  | _ => none }
def fnFlowEndRow : OpenClaim := { program := "ytnehedcelfpegaadoor", sum := "c575c487f43136c1d446cfebef6d136fe4a0c7b8d0363138aba5623d645539ab", func := "loop.example/restaurantkitchen/laws.FnFlowEnd", spec := "fnFlowEnd", inPlace := ["internal/abi.NoEscape"], unfollowed := true, recurses := true, named := ["internal/strconv.uint64pow10", "math/bits.deBruijn32tab", "math/bits.deBruijn64tab"], apart := false, laid := [("math/bits.deBruijn32tab", laid_math_bits_deBruijn32tab), ("math/bits.deBruijn64tab", laid_math_bits_deBruijn64tab), ("internal/strconv.uint64pow10", laid_internal_strconv_uint64pow10)] }
def FnFlowEndSaid : Prop := fnFlowEndRow.holds Tryd.pinned (OpenSpec.ofChange fnFlowEndSpec)

/-- ITS FALSE NEIGHBOUR: 'it returns false'. Refute it at one input. -/
def fnFlowEndWrong : ChangeSpec := { name := "fnFlowEnd", fn := fun _ => fun
  | [d] => { results := [.lit (.bool false)], args := [d] }
  | _ => none }
def FnFlowEndWrongFalsely : Prop := fnFlowEndRow.holds Tryd.pinned (OpenSpec.ofChange fnFlowEndWrong)

/-- 'laws.FnFlowLeast': WHATEVER THE INPUT: true; the input reads as it did. -/
def fnFlowLeastSpec : ChangeSpec := { name := "fnFlowLeast", fn := fun _ => fun
  | [d] => { results := [.lit (.bool true)], args := [d] }
  | _ => none }
def fnFlowLeastRow : OpenClaim := { program := "ytnehedcelfpegaadoor", sum := "c575c487f43136c1d446cfebef6d136fe4a0c7b8d0363138aba5623d645539ab", func := "loop.example/restaurantkitchen/laws.FnFlowLeast", spec := "fnFlowLeast", inPlace := ["internal/abi.NoEscape"], unfollowed := true, recurses := true, named := ["internal/strconv.uint64pow10", "math/bits.deBruijn32tab", "math/bits.deBruijn64tab"], apart := false, laid := [("math/bits.deBruijn32tab", laid_math_bits_deBruijn32tab), ("math/bits.deBruijn64tab", laid_math_bits_deBruijn64tab), ("internal/strconv.uint64pow10", laid_internal_strconv_uint64pow10)] }
def FnFlowLeastSaid : Prop := fnFlowLeastRow.holds Tryd.pinned (OpenSpec.ofChange fnFlowLeastSpec)

/-- ITS FALSE NEIGHBOUR: 'it returns false'. Refute it at one input. -/
def fnFlowLeastWrong : ChangeSpec := { name := "fnFlowLeast", fn := fun _ => fun
  | [d] => { results := [.lit (.bool false)], args := [d] }
  | _ => none }
def FnFlowLeastWrongFalsely : Prop := fnFlowLeastRow.holds Tryd.pinned (OpenSpec.ofChange fnFlowLeastWrong)

/- THE SECOND FORM. 'bulk': how many values and letters a reading holds, each counted each time it is reached (what is shared counts as often as it is met; a slice's spare places count too). A statement '..UptoSaid' is the law's where the arguments, and the package variables that the reading takes, are together of bulk at most 1048576: NARROWER than '..Said'. Prove '..Said' where nothing that the law and all that it calls make is longer than what came in: it says more and counts as full. Else prove '..UptoSaid'. A law counts once. -/
mutual
def uptoBulk {H : Type} : DataW H → Nat
  | .lit (.string bytes) => bytes.length + 1
  | .lit _ => 1
  | .nil => 1
  | .ptr d => uptoBulk d + 1
  | .slice elems spare => uptoBulkAll elems + uptoBulkAll spare + 1
  | .agg parts => uptoBulkAll parts + 1
  | .iface _ d => uptoBulk d + 1
  | .map entries => uptoBulkEntries entries + 1
  | .held _ => 1
def uptoBulkAll {H : Type} : List (DataW H) → Nat
  | [] => 0
  | d :: r => uptoBulk d + uptoBulkAll r
def uptoBulkEntries {H : Type} : List (Lit × DataW H) → Nat
  | [] => 0
  | x :: r => uptoBulkEntry x + uptoBulkEntries r
def uptoBulkEntry {H : Type} : Lit × DataW H → Nat
  | (.string bytes, d) => bytes.length + uptoBulk d + 1
  | (_, d) => uptoBulk d + 1
 end
def uptoSmall : (H : Type) → List (DataW H) → Bool := fun _ ds => decide (uptoBulkAll ds ≤ 1048576)
def OpenSpec.upto (s : _root_.Go.ChangeSpec) : _root_.Go.OpenSpec := { _root_.Go.OpenSpec.ofChange s with cond := some uptoSmall }

/-- 'laws.FnSpansValid', WHERE WHAT IT READS IS OF BULK AT MOST 1048576: true; the input reads as it did. -/
def fnSpansValidUptoRow : OpenClaim := { program := "ytnehedcelfpegaadoor", sum := "c575c487f43136c1d446cfebef6d136fe4a0c7b8d0363138aba5623d645539ab", func := "loop.example/restaurantkitchen/laws.FnSpansValid", spec := "fnSpansValid", inPlace := ["internal/abi.NoEscape"], named := ["internal/strconv.uint64pow10", "math/bits.deBruijn32tab", "math/bits.deBruijn64tab"], apart := false, laid := [("math/bits.deBruijn32tab", laid_math_bits_deBruijn32tab), ("math/bits.deBruijn64tab", laid_math_bits_deBruijn64tab), ("internal/strconv.uint64pow10", laid_internal_strconv_uint64pow10)], narrowed := true }
def FnSpansValidUptoSaid : Prop := fnSpansValidUptoRow.holds Tryd.pinned (OpenSpec.upto fnSpansValidSpec)

/-- 'laws.FnDishesValid', WHERE WHAT IT READS IS OF BULK AT MOST 1048576: true; the input reads as it did. -/
def fnDishesValidUptoRow : OpenClaim := { program := "ytnehedcelfpegaadoor", sum := "c575c487f43136c1d446cfebef6d136fe4a0c7b8d0363138aba5623d645539ab", func := "loop.example/restaurantkitchen/laws.FnDishesValid", spec := "fnDishesValid", inPlace := ["internal/abi.NoEscape"], named := ["internal/strconv.uint64pow10", "math/bits.deBruijn32tab", "math/bits.deBruijn64tab"], apart := false, laid := [("math/bits.deBruijn32tab", laid_math_bits_deBruijn32tab), ("math/bits.deBruijn64tab", laid_math_bits_deBruijn64tab), ("internal/strconv.uint64pow10", laid_internal_strconv_uint64pow10)], narrowed := true }
def FnDishesValidUptoSaid : Prop := fnDishesValidUptoRow.holds Tryd.pinned (OpenSpec.upto fnDishesValidSpec)

/-- 'laws.FnOrderOk', WHERE WHAT IT READS IS OF BULK AT MOST 1048576: true; the input reads as it did. -/
def fnOrderOkUptoRow : OpenClaim := { program := "ytnehedcelfpegaadoor", sum := "c575c487f43136c1d446cfebef6d136fe4a0c7b8d0363138aba5623d645539ab", func := "loop.example/restaurantkitchen/laws.FnOrderOk", spec := "fnOrderOk", inPlace := ["internal/abi.NoEscape"], named := ["internal/strconv.uint64pow10", "math/bits.deBruijn32tab", "math/bits.deBruijn64tab"], apart := false, laid := [("math/bits.deBruijn32tab", laid_math_bits_deBruijn32tab), ("math/bits.deBruijn64tab", laid_math_bits_deBruijn64tab), ("internal/strconv.uint64pow10", laid_internal_strconv_uint64pow10)], narrowed := true }
def FnOrderOkUptoSaid : Prop := fnOrderOkUptoRow.holds Tryd.pinned (OpenSpec.upto fnOrderOkSpec)

/-- 'laws.FnFlowEnds', WHERE WHAT IT READS IS OF BULK AT MOST 1048576: true; the input reads as it did. -/
def fnFlowEndsUptoRow : OpenClaim := { program := "ytnehedcelfpegaadoor", sum := "c575c487f43136c1d446cfebef6d136fe4a0c7b8d0363138aba5623d645539ab", func := "loop.example/restaurantkitchen/laws.FnFlowEnds", spec := "fnFlowEnds", inPlace := ["internal/abi.NoEscape"], named := ["internal/strconv.uint64pow10", "math/bits.deBruijn32tab", "math/bits.deBruijn64tab"], apart := false, laid := [("math/bits.deBruijn32tab", laid_math_bits_deBruijn32tab), ("math/bits.deBruijn64tab", laid_math_bits_deBruijn64tab), ("internal/strconv.uint64pow10", laid_internal_strconv_uint64pow10)], narrowed := true }
def FnFlowEndsUptoSaid : Prop := fnFlowEndsUptoRow.holds Tryd.pinned (OpenSpec.upto fnFlowEndsSpec)

/-- 'laws.FnTogetherBest', WHERE WHAT IT READS IS OF BULK AT MOST 1048576: true; the input reads as it did. -/
def fnTogetherBestUptoRow : OpenClaim := { program := "ytnehedcelfpegaadoor", sum := "c575c487f43136c1d446cfebef6d136fe4a0c7b8d0363138aba5623d645539ab", func := "loop.example/restaurantkitchen/laws.FnTogetherBest", spec := "fnTogetherBest", inPlace := ["internal/abi.NoEscape"], unfollowed := true, recurses := true, named := ["internal/strconv.uint64pow10", "math/bits.deBruijn32tab", "math/bits.deBruijn64tab"], apart := false, laid := [("math/bits.deBruijn32tab", laid_math_bits_deBruijn32tab), ("math/bits.deBruijn64tab", laid_math_bits_deBruijn64tab), ("internal/strconv.uint64pow10", laid_internal_strconv_uint64pow10)], narrowed := true }
def FnTogetherBestUptoSaid : Prop := fnTogetherBestUptoRow.holds Tryd.pinned (OpenSpec.upto fnTogetherBestSpec)

/-- 'laws.FnTogetherWaits', WHERE WHAT IT READS IS OF BULK AT MOST 1048576: true; the input reads as it did. -/
def fnTogetherWaitsUptoRow : OpenClaim := { program := "ytnehedcelfpegaadoor", sum := "c575c487f43136c1d446cfebef6d136fe4a0c7b8d0363138aba5623d645539ab", func := "loop.example/restaurantkitchen/laws.FnTogetherWaits", spec := "fnTogetherWaits", inPlace := ["internal/abi.NoEscape"], unfollowed := true, recurses := true, named := ["internal/strconv.uint64pow10", "math/bits.deBruijn32tab", "math/bits.deBruijn64tab"], apart := false, laid := [("math/bits.deBruijn32tab", laid_math_bits_deBruijn32tab), ("math/bits.deBruijn64tab", laid_math_bits_deBruijn64tab), ("internal/strconv.uint64pow10", laid_internal_strconv_uint64pow10)], narrowed := true }
def FnTogetherWaitsUptoSaid : Prop := fnTogetherWaitsUptoRow.holds Tryd.pinned (OpenSpec.upto fnTogetherWaitsSpec)

/-- 'laws.FnFlowBest', WHERE WHAT IT READS IS OF BULK AT MOST 1048576: true; the input reads as it did. -/
def fnFlowBestUptoRow : OpenClaim := { program := "ytnehedcelfpegaadoor", sum := "c575c487f43136c1d446cfebef6d136fe4a0c7b8d0363138aba5623d645539ab", func := "loop.example/restaurantkitchen/laws.FnFlowBest", spec := "fnFlowBest", inPlace := ["internal/abi.NoEscape"], unfollowed := true, recurses := true, named := ["internal/strconv.uint64pow10", "math/bits.deBruijn32tab", "math/bits.deBruijn64tab"], apart := false, laid := [("math/bits.deBruijn32tab", laid_math_bits_deBruijn32tab), ("math/bits.deBruijn64tab", laid_math_bits_deBruijn64tab), ("internal/strconv.uint64pow10", laid_internal_strconv_uint64pow10)], narrowed := true }
def FnFlowBestUptoSaid : Prop := fnFlowBestUptoRow.holds Tryd.pinned (OpenSpec.upto fnFlowBestSpec)

/-- 'laws.FnFlowEnd', WHERE WHAT IT READS IS OF BULK AT MOST 1048576: true; the input reads as it did. -/
def fnFlowEndUptoRow : OpenClaim := { program := "ytnehedcelfpegaadoor", sum := "c575c487f43136c1d446cfebef6d136fe4a0c7b8d0363138aba5623d645539ab", func := "loop.example/restaurantkitchen/laws.FnFlowEnd", spec := "fnFlowEnd", inPlace := ["internal/abi.NoEscape"], unfollowed := true, recurses := true, named := ["internal/strconv.uint64pow10", "math/bits.deBruijn32tab", "math/bits.deBruijn64tab"], apart := false, laid := [("math/bits.deBruijn32tab", laid_math_bits_deBruijn32tab), ("math/bits.deBruijn64tab", laid_math_bits_deBruijn64tab), ("internal/strconv.uint64pow10", laid_internal_strconv_uint64pow10)], narrowed := true }
def FnFlowEndUptoSaid : Prop := fnFlowEndUptoRow.holds Tryd.pinned (OpenSpec.upto fnFlowEndSpec)

/-- 'laws.FnFlowLeast', WHERE WHAT IT READS IS OF BULK AT MOST 1048576: true; the input reads as it did. -/
def fnFlowLeastUptoRow : OpenClaim := { program := "ytnehedcelfpegaadoor", sum := "c575c487f43136c1d446cfebef6d136fe4a0c7b8d0363138aba5623d645539ab", func := "loop.example/restaurantkitchen/laws.FnFlowLeast", spec := "fnFlowLeast", inPlace := ["internal/abi.NoEscape"], unfollowed := true, recurses := true, named := ["internal/strconv.uint64pow10", "math/bits.deBruijn32tab", "math/bits.deBruijn64tab"], apart := false, laid := [("math/bits.deBruijn32tab", laid_math_bits_deBruijn32tab), ("math/bits.deBruijn64tab", laid_math_bits_deBruijn64tab), ("internal/strconv.uint64pow10", laid_internal_strconv_uint64pow10)], narrowed := true }
def FnFlowLeastUptoSaid : Prop := fnFlowLeastUptoRow.holds Tryd.pinned (OpenSpec.upto fnFlowLeastSpec)

end Rows
end Go.Proofs.YtnehedcelfpegaaDoor
