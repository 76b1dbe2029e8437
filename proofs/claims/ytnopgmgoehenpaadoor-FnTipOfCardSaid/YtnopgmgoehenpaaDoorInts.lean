/- Contracts of the small functions over slices of numbers. -/
import Derived.Test.YtnopgmgoehenpaaDoorRows
import Derived.Test.YtnopgmgoehenpaaDoorMem
import Derived.ProofKit
import Derived.Deep.QuietTactic
import Derived.BigQuiet
import Derived.Laws.CopyOwn
namespace Go.Proofs.YtnopgmgoehenpaaDoor
open Go.ChangeShapes Go.WideShapes Go.ChangeAt Go.RowKit

theorem int_info : (Tryd.prog.info? 3).map (fun i => (i.zero, i.size, i.bytes)) = some (some (.int .i64 0), 1, 8) := by kernel_rfl

def inB (n lo hi : Int) : Bool := decide (lo ≤ n) && decide (n ≤ hi)
theorem inB_true {n lo hi : Int} : inB n lo hi = true ↔ lo ≤ n ∧ n ≤ hi := by simp [inB]
theorem inB_false {n lo hi : Int} : inB n lo hi = false ↔ n < lo ∨ hi < n := by simp [inB]; omega

set_option maxHeartbeats 1000000 in
theorem l1In_any (n lo hi : Int) (w : World) :
    Calls Tryd.prog 11 #[.int .i64 n, .int .i64 lo, .int .i64 hi] w fun e w' => e = .returned (.bool (inB n lo hi)) ∧ w = w' := by
  by_cases h1 : lo ≤ n <;> by_cases h2 : n ≤ hi
  all_goals
    go_enter Tryd.func11, Tryd.ntmps11
    go_wp2
    go_ret
    exact ⟨ret_bool (by simp [inB, *] <;> omega), rfl⟩



def okB (g : Int) (x : Int) : Bool := decide (0 ≤ x) && decide (x ≤ g)
def amtB (xs : List Int) (m g : Int) : Bool := decide ((xs.length : Int) = m) && xs.all (okB g)


/-- The call made a slice that holds xs; nothing that was there has changed. -/
def RetI (w : World) (xs : List Int) (e : Ending) (w' : World) : Prop := ∃ v, e = .returned v ∧ OI w' w.heap.size v xs ∧ Below w.heap.size w w'




/-- Two slices that hold the same are found equal. -/
def RetT (w : World) (e : Ending) (w' : World) : Prop := e = .returned (.bool true) ∧ ∃ n, w' = w.drewN n




def hasB (xs : List Int) (n : Int) : Bool := xs.any fun x => x == n

end Go.Proofs.YtnopgmgoehenpaaDoor
