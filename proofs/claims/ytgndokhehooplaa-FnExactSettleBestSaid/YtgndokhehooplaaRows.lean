/-
  No cell of these rows narrows 'for every input' (looked for: loops, veiled, ifaces, maps, wideKeys, modest, calm, conditions, laid).
  DERIVED. THE GIVEN ROWS OF THIS SEAT. 6 by the template 'for every input the law returns true; each argument reads behind the call as it read before'; 0 by the template 'total and deterministic' (their statements: YtgndokhehooplaaTotals.lean).
  GIVEN WITH THE SEED: the statements are not yours to turn. If you find one false, say at which input.
  Laid BY PROGRAM, IN A SANDBOX (cutbox-rows.mjs): the forced cells as the released guide's own fill.sh prints them over the translation 24ca2e30f5f99d93… (all of the seat's roots in one cut). By AI agents, Wed Nov 11 2026. No macro, syntax, notation, axiom, sorry.
-/
import Derived.Test.YtgndokhehooplaaChecked
import GoSem.Claim
import GoSem.ClaimJoined
import GoSem.ClaimMapViews
import Derived.JoinedTies
import Derived.KernelRfl
namespace Go.Proofs.Ytgndokhehooplaa
/- THE CELL 'sum', in the pinned program and in every row, IS THE sha256 OF THE DUMP (.gsa) THAT YtgndokhehooplaaProg.lean LOADS. Nothing in Lean hashes anything: it is a label: what it is worth is what the hold of that sum in a sandbox is worth. -/
noncomputable def Try.pinned : Pinned := { name := "ytgndokhehooplaa", sum := "24ca2e30f5f99d934bdedcda3cca6bc5cfce27d813df63936a448b43bda4967c", checked := Try.checked }
namespace Rows
def none {H : Type} : Left H := { results := [], args := [] }

/-- 'laws.FnExactGroupsMost': WHATEVER THE INPUT: true; the input reads as it did. -/
def fnExactGroupsMostSpec : ChangeSpec := { name := "fnExactGroupsMost", fn := fun _ => fun
  | [d] => { results := [.lit (.bool true)], args := [d] }
  | _ => none }
def fnExactGroupsMostRow : OpenClaim := { program := "ytgndokhehooplaa", sum := "24ca2e30f5f99d934bdedcda3cca6bc5cfce27d813df63936a448b43bda4967c", func := "loop.example/restaurantkitchen/laws.FnExactGroupsMost", spec := "fnExactGroupsMost", apart := false }
def FnExactGroupsMostSaid : Prop := fnExactGroupsMostRow.holds Try.pinned (OpenSpec.ofChange fnExactGroupsMostSpec)

/-- ITS FALSE NEIGHBOUR: 'it returns false'. Refute it at one input. -/
def fnExactGroupsMostWrong : ChangeSpec := { name := "fnExactGroupsMost", fn := fun _ => fun
  | [d] => { results := [.lit (.bool false)], args := [d] }
  | _ => none }
def FnExactGroupsMostWrongFalsely : Prop := fnExactGroupsMostRow.holds Try.pinned (OpenSpec.ofChange fnExactGroupsMostWrong)

/-- 'laws.FnExactSettleLeast': WHATEVER THE INPUT: true; the input reads as it did. -/
def fnExactSettleLeastSpec : ChangeSpec := { name := "fnExactSettleLeast", fn := fun _ => fun
  | [d] => { results := [.lit (.bool true)], args := [d] }
  | _ => none }
def fnExactSettleLeastRow : OpenClaim := { program := "ytgndokhehooplaa", sum := "24ca2e30f5f99d934bdedcda3cca6bc5cfce27d813df63936a448b43bda4967c", func := "loop.example/restaurantkitchen/laws.FnExactSettleLeast", spec := "fnExactSettleLeast", apart := false }
def FnExactSettleLeastSaid : Prop := fnExactSettleLeastRow.holds Try.pinned (OpenSpec.ofChange fnExactSettleLeastSpec)

/-- ITS FALSE NEIGHBOUR: 'it returns false'. Refute it at one input. -/
def fnExactSettleLeastWrong : ChangeSpec := { name := "fnExactSettleLeast", fn := fun _ => fun
  | [d] => { results := [.lit (.bool false)], args := [d] }
  | _ => none }
def FnExactSettleLeastWrongFalsely : Prop := fnExactSettleLeastRow.holds Try.pinned (OpenSpec.ofChange fnExactSettleLeastWrong)

/-- 'laws.FnExactShareOf': WHATEVER THE INPUT: true; the input reads as it did. -/
def fnExactShareOfSpec : ChangeSpec := { name := "fnExactShareOf", fn := fun _ => fun
  | [d1, d2] => { results := [.lit (.bool true)], args := [d1, d2] }
  | _ => none }
def fnExactShareOfRow : OpenClaim := { program := "ytgndokhehooplaa", sum := "24ca2e30f5f99d934bdedcda3cca6bc5cfce27d813df63936a448b43bda4967c", func := "loop.example/restaurantkitchen/laws.FnExactShareOf", spec := "fnExactShareOf", unfollowed := true, recurses := true, apart := false }
def FnExactShareOfSaid : Prop := fnExactShareOfRow.holds Try.pinned (OpenSpec.ofChange fnExactShareOfSpec)

/-- ITS FALSE NEIGHBOUR: 'it returns false'. Refute it at one input. -/
def fnExactShareOfWrong : ChangeSpec := { name := "fnExactShareOf", fn := fun _ => fun
  | [d1, d2] => { results := [.lit (.bool false)], args := [d1, d2] }
  | _ => none }
def FnExactShareOfWrongFalsely : Prop := fnExactShareOfRow.holds Try.pinned (OpenSpec.ofChange fnExactShareOfWrong)

/-- 'laws.FnExactOwedOf': WHATEVER THE INPUT: true; the input reads as it did. -/
def fnExactOwedOfSpec : ChangeSpec := { name := "fnExactOwedOf", fn := fun _ => fun
  | [d1, d2] => { results := [.lit (.bool true)], args := [d1, d2] }
  | _ => none }
def fnExactOwedOfRow : OpenClaim := { program := "ytgndokhehooplaa", sum := "24ca2e30f5f99d934bdedcda3cca6bc5cfce27d813df63936a448b43bda4967c", func := "loop.example/restaurantkitchen/laws.FnExactOwedOf", spec := "fnExactOwedOf", unfollowed := true, recurses := true, apart := false }
def FnExactOwedOfSaid : Prop := fnExactOwedOfRow.holds Try.pinned (OpenSpec.ofChange fnExactOwedOfSpec)

/-- ITS FALSE NEIGHBOUR: 'it returns false'. Refute it at one input. -/
def fnExactOwedOfWrong : ChangeSpec := { name := "fnExactOwedOf", fn := fun _ => fun
  | [d1, d2] => { results := [.lit (.bool false)], args := [d1, d2] }
  | _ => none }
def FnExactOwedOfWrongFalsely : Prop := fnExactOwedOfRow.holds Try.pinned (OpenSpec.ofChange fnExactOwedOfWrong)

/-- 'laws.FnExactSettleBest': WHATEVER THE INPUT: true; the input reads as it did. -/
def fnExactSettleBestSpec : ChangeSpec := { name := "fnExactSettleBest", fn := fun _ => fun
  | [d] => { results := [.lit (.bool true)], args := [d] }
  | _ => none }
def fnExactSettleBestRow : OpenClaim := { program := "ytgndokhehooplaa", sum := "24ca2e30f5f99d934bdedcda3cca6bc5cfce27d813df63936a448b43bda4967c", func := "loop.example/restaurantkitchen/laws.FnExactSettleBest", spec := "fnExactSettleBest", apart := false }
def FnExactSettleBestSaid : Prop := fnExactSettleBestRow.holds Try.pinned (OpenSpec.ofChange fnExactSettleBestSpec)

/-- ITS FALSE NEIGHBOUR: 'it returns false'. Refute it at one input. -/
def fnExactSettleBestWrong : ChangeSpec := { name := "fnExactSettleBest", fn := fun _ => fun
  | [d] => { results := [.lit (.bool false)], args := [d] }
  | _ => none }
def FnExactSettleBestWrongFalsely : Prop := fnExactSettleBestRow.holds Try.pinned (OpenSpec.ofChange fnExactSettleBestWrong)

/-- 'laws.FnExactLongestWay': WHATEVER THE INPUT: true; the input reads as it did. -/
def fnExactLongestWaySpec : ChangeSpec := { name := "fnExactLongestWay", fn := fun _ => fun
  | [d] => { results := [.lit (.bool true)], args := [d] }
  | _ => none }
def fnExactLongestWayRow : OpenClaim := { program := "ytgndokhehooplaa", sum := "24ca2e30f5f99d934bdedcda3cca6bc5cfce27d813df63936a448b43bda4967c", func := "loop.example/restaurantkitchen/laws.FnExactLongestWay", spec := "fnExactLongestWay", apart := false }
def FnExactLongestWaySaid : Prop := fnExactLongestWayRow.holds Try.pinned (OpenSpec.ofChange fnExactLongestWaySpec)

/-- ITS FALSE NEIGHBOUR: 'it returns false'. Refute it at one input. -/
def fnExactLongestWayWrong : ChangeSpec := { name := "fnExactLongestWay", fn := fun _ => fun
  | [d] => { results := [.lit (.bool false)], args := [d] }
  | _ => none }
def FnExactLongestWayWrongFalsely : Prop := fnExactLongestWayRow.holds Try.pinned (OpenSpec.ofChange fnExactLongestWayWrong)

/- THE SECOND FORM. 'bulk': how many values and letters a reading holds, each counted each time it is reached (what is shared counts as often as it is met; a slice's spare places count too). A statement '..UptoSaid' is the law's where the arguments, and the package variables that the reading takes, are together of bulk at most 1048576: NARROWER than '..Said'. Prove '..Said' where nothing that the law and all that it calls make is longer than what came in: it says more and counts as full. Else prove '..UptoSaid'. A law counts once. -/
mutual
def uptoBulk {H : Type} : DataW H → Nat
  | .lit (.string bytes) => bytes.length + 1
  | .lit _ => 1
  | .nil => 1
  | .ptr d => uptoBulk d + 1
  | .slice elems spare => uptoBulkAll elems + uptoBulkAll spare + 1
  | .agg parts => uptoBulkAll parts + 1
  | .iface _ d => uptoBulk d + 1
  | .map entries => uptoBulkEntries entries + 1
  | .held _ => 1
def uptoBulkAll {H : Type} : List (DataW H) → Nat
  | [] => 0
  | d :: r => uptoBulk d + uptoBulkAll r
def uptoBulkEntries {H : Type} : List (Lit × DataW H) → Nat
  | [] => 0
  | x :: r => uptoBulkEntry x + uptoBulkEntries r
def uptoBulkEntry {H : Type} : Lit × DataW H → Nat
  | (.string bytes, d) => bytes.length + uptoBulk d + 1
  | (_, d) => uptoBulk d + 1
 end
def uptoSmall : (H : Type) → List (DataW H) → Bool := fun _ ds => decide (uptoBulkAll ds ≤ 1048576)
def OpenSpec.upto (s : _root_.Go.ChangeSpec) : _root_.Go.OpenSpec := { _root_.Go.OpenSpec.ofChange s with cond := some uptoSmall }

/-- 'laws.FnExactGroupsMost', WHERE WHAT IT READS IS OF BULK AT MOST 1048576: true; the input reads as it did. -/
def fnExactGroupsMostUptoRow : OpenClaim := { program := "ytgndokhehooplaa", sum := "24ca2e30f5f99d934bdedcda3cca6bc5cfce27d813df63936a448b43bda4967c", func := "loop.example/restaurantkitchen/laws.FnExactGroupsMost", spec := "fnExactGroupsMost", apart := false, narrowed := true }
def FnExactGroupsMostUptoSaid : Prop := fnExactGroupsMostUptoRow.holds Try.pinned (OpenSpec.upto fnExactGroupsMostSpec)

/-- 'laws.FnExactSettleLeast', WHERE WHAT IT READS IS OF BULK AT MOST 1048576: true; the input reads as it did. -/
def fnExactSettleLeastUptoRow : OpenClaim := { program := "ytgndokhehooplaa", sum := "24ca2e30f5f99d934bdedcda3cca6bc5cfce27d813df63936a448b43bda4967c", func := "loop.example/restaurantkitchen/laws.FnExactSettleLeast", spec := "fnExactSettleLeast", apart := false, narrowed := true }
def FnExactSettleLeastUptoSaid : Prop := fnExactSettleLeastUptoRow.holds Try.pinned (OpenSpec.upto fnExactSettleLeastSpec)

/-- 'laws.FnExactShareOf', WHERE WHAT IT READS IS OF BULK AT MOST 1048576: true; the input reads as it did. -/
def fnExactShareOfUptoRow : OpenClaim := { program := "ytgndokhehooplaa", sum := "24ca2e30f5f99d934bdedcda3cca6bc5cfce27d813df63936a448b43bda4967c", func := "loop.example/restaurantkitchen/laws.FnExactShareOf", spec := "fnExactShareOf", unfollowed := true, recurses := true, apart := false, narrowed := true }
def FnExactShareOfUptoSaid : Prop := fnExactShareOfUptoRow.holds Try.pinned (OpenSpec.upto fnExactShareOfSpec)

/-- 'laws.FnExactOwedOf', WHERE WHAT IT READS IS OF BULK AT MOST 1048576: true; the input reads as it did. -/
def fnExactOwedOfUptoRow : OpenClaim := { program := "ytgndokhehooplaa", sum := "24ca2e30f5f99d934bdedcda3cca6bc5cfce27d813df63936a448b43bda4967c", func := "loop.example/restaurantkitchen/laws.FnExactOwedOf", spec := "fnExactOwedOf", unfollowed := true, recurses := true, apart := false, narrowed := true }
def FnExactOwedOfUptoSaid : Prop := fnExactOwedOfUptoRow.holds Try.pinned (OpenSpec.upto fnExactOwedOfSpec)

/-- 'laws.FnExactSettleBest', WHERE WHAT IT READS IS OF BULK AT MOST 1048576: true; the input reads as it did. -/
def fnExactSettleBestUptoRow : OpenClaim := { program := "ytgndokhehooplaa", sum := "24ca2e30f5f99d934bdedcda3cca6bc5cfce27d813df63936a448b43bda4967c", func := "loop.example/restaurantkitchen/laws.FnExactSettleBest", spec := "fnExactSettleBest", apart := false, narrowed := true }
def FnExactSettleBestUptoSaid : Prop := fnExactSettleBestUptoRow.holds Try.pinned (OpenSpec.upto fnExactSettleBestSpec)

/-- 'laws.FnExactLongestWay', WHERE WHAT IT READS IS OF BULK AT MOST 1048576: true; the input reads as it did. -/
def fnExactLongestWayUptoRow : OpenClaim := { program := "ytgndokhehooplaa", sum := "24ca2e30f5f99d934bdedcda3cca6bc5cfce27d813df63936a448b43bda4967c", func := "loop.example/restaurantkitchen/laws.FnExactLongestWay", spec := "fnExactLongestWay", apart := false, narrowed := true }
def FnExactLongestWayUptoSaid : Prop := fnExactLongestWayUptoRow.holds Try.pinned (OpenSpec.upto fnExactLongestWaySpec)

end Rows
end Go.Proofs.Ytgndokhehooplaa
