/- Contracts of the small functions over slices of numbers. -/
import Derived.Test.YthbledeghanffaaDoorRows
import Derived.Test.YthbledeghanffaaDoorMem
import Derived.ProofKit
import Derived.Deep.QuietTactic
import Derived.BigQuiet
import Derived.Laws.CopyOwn
set_option linter.unusedVariables false
set_option linter.unusedSimpArgs false
namespace Go.Proofs.YthbledeghanffaaDoor
open Go.ChangeShapes Go.WideShapes Go.ChangeAt Go.RowKit

theorem int_info : (Tryd.prog.info? 3).map (fun i => (i.zero, i.size, i.bytes)) = some (some (.int .i64 0), 1, 8) := by kernel_rfl

def inB (n lo hi : Int) : Bool := decide (lo ≤ n) && decide (n ≤ hi)
theorem inB_true {n lo hi : Int} : inB n lo hi = true ↔ lo ≤ n ∧ n ≤ hi := by simp [inB]
theorem inB_false {n lo hi : Int} : inB n lo hi = false ↔ n < lo ∨ hi < n := by simp [inB]; omega

set_option maxHeartbeats 1000000 in
theorem l1In_any (n lo hi : Int) (w : World) :
    Calls Tryd.prog 56 #[.int .i64 n, .int .i64 lo, .int .i64 hi] w fun e w' => e = .returned (.bool (inB n lo hi)) ∧ w = w' := by
  by_cases h1 : lo ≤ n <;> by_cases h2 : n ≤ hi
  all_goals
    go_enter Tryd.func56, Tryd.ntmps56
    go_wp2
    go_ret
    exact ⟨ret_bool (by simp [inB, *] <;> omega), rfl⟩



def okB (g : Int) (x : Int) : Bool := decide (0 ≤ x) && decide (x ≤ g)
def amtB (xs : List Int) (m g : Int) : Bool := decide ((xs.length : Int) = m) && xs.all (okB g)

set_option maxHeartbeats 1000000 in
theorem amountsOk_any (A : Option Addr) (c : Nat) (xs : List Int) (m g : Int) (w : World) (B : Nat) (h : IS w B A xs) (hl : xs.length ≤ 9223372036854775807) :
    Calls Tryd.prog 55 #[.slice A xs.length c, .int .i64 m, .int .i64 g] w fun e w' => e = .returned (.bool (amtB xs m g)) ∧ w = w' := by
  by_cases hm : (xs.length : Int) = m
  · subst hm
    go_enter Tryd.func55, Tryd.ntmps55
    go_wp2
    go_loop [8, 15] (fun _ i => ∃ k : Nat, k ≤ xs.length ∧ i = .int .i64 k ∧ (xs.take k).all (okB g) = true) (fun _ i => xs.length - (intOf i).toNat)
    case atStart => exact ⟨0, Nat.zero_le _, rfl, by simp⟩
    case round =>
      obtain ⟨k, hk, rfl, ha⟩ := hrel
      have HA := Lib.hid ha
      clear ha
      by_cases hlt : k < xs.length
      · obtain ⟨b, off, rfl, hbl, hc⟩ := h.at_ (by omega)
        have hck := hc k hlt
        by_cases h1 : 0 ≤ xs[k]
        · by_cases h2 : xs[k] ≤ g
          · go_wp2
            go_round
            case rel => exact ⟨k + 1, by omega, by go_num, by rw [all_take_succ _ xs k hlt, HA.out]; simp [okB, h1, h2]⟩
            case measure => simp [intOf]; omega
          · go_wp2
            go_ret
            exact ⟨ret_bool (by rw [amtB, all_false _ xs k hlt (by simp [okB]; omega)]; simp), rfl⟩
        · go_wp2
          go_ret
          exact ⟨ret_bool (by rw [amtB, all_false _ xs k hlt (by simp [okB]; omega)]; simp), rfl⟩
      · go_wp2
        go_ret
        exact ⟨ret_bool (by rw [amtB, ← all_take_end _ xs k (by omega), HA.out]; simp), rfl⟩
  · have hm' : ((xs.length : Int) == m) = false := by simpa using hm
    go_enter Tryd.func55, Tryd.ntmps55
    go_wp2
    go_ret
    exact ⟨ret_bool (by simp [amtB, hm]), rfl⟩

/-- The call made a slice that holds xs; nothing that was there has changed. -/
def RetI (w : World) (xs : List Int) (e : Ending) (w' : World) : Prop := ∃ v, e = .returned v ∧ OI w' w.heap.size v xs ∧ Below w.heap.size w w'




/-- Two slices that hold the same are found equal. -/
def RetT (w : World) (e : Ending) (w' : World) : Prop := e = .returned (.bool true) ∧ ∃ n, w' = w.drewN n




def hasB (xs : List Int) (n : Int) : Bool := xs.any fun x => x == n

end Go.Proofs.YthbledeghanffaaDoor
