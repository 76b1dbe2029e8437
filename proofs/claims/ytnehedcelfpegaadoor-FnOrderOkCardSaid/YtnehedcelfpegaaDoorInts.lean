/- Contracts of the small functions over slices of numbers. -/
import Derived.Test.YtnehedcelfpegaaDoorRows
import Derived.Test.YtnehedcelfpegaaDoorMem
import Derived.ProofKit
import Derived.Deep.QuietTactic
import Derived.BigQuiet
import Derived.Laws.CopyOwn
set_option linter.unusedVariables false
set_option linter.unusedSimpArgs false
namespace Go.Proofs.YtnehedcelfpegaaDoor
open Go.ChangeShapes Go.WideShapes Go.ChangeAt Go.RowKit

theorem int_info : (Tryd.prog.info? 3).map (fun i => (i.zero, i.size, i.bytes)) = some (some (.int .i64 0), 1, 8) := by kernel_rfl

def inB (n lo hi : Int) : Bool := decide (lo ≤ n) && decide (n ≤ hi)
theorem inB_true {n lo hi : Int} : inB n lo hi = true ↔ lo ≤ n ∧ n ≤ hi := by simp [inB]
theorem inB_false {n lo hi : Int} : inB n lo hi = false ↔ n < lo ∨ hi < n := by simp [inB]; omega

set_option maxHeartbeats 1000000 in
theorem l1In_any (n lo hi : Int) (w : World) :
    Calls Tryd.prog 45 #[.int .i64 n, .int .i64 lo, .int .i64 hi] w fun e w' => e = .returned (.bool (inB n lo hi)) ∧ w = w' := by
  by_cases h1 : lo ≤ n <;> by_cases h2 : n ≤ hi
  all_goals
    go_enter Tryd.func45, Tryd.ntmps45
    go_wp2
    go_ret
    exact ⟨ret_bool (by simp [inB, *] <;> omega), rfl⟩


set_option maxHeartbeats 1000000 in
theorem sumOf_any (A : Option Addr) (c : Nat) (xs : List Int) (w : World) (B : Nat) (h : IS w B A xs) (hl : xs.length ≤ 1048576) (hb : ∀ x ∈ xs, -1000000 ≤ x ∧ x ≤ 1000000) :
    Calls Tryd.prog 55 #[.slice A xs.length c] w fun e w' => e = .returned (.int .i64 xs.sum) ∧ w = w' := by
  go_enter Tryd.func55, Tryd.ntmps55
  go_wp2
  go_loop [3, 8] (fun n i => ∃ k : Nat, k ≤ xs.length ∧ i = .int .i64 k ∧ n = .int .i64 (xs.take k).sum) (fun _ i => xs.length - (intOf i).toNat)
  case atStart => exact ⟨0, Nat.zero_le _, rfl, by simp⟩
  case round =>
    obtain ⟨k, hk, rfl, rfl⟩ := hrel
    have sb := take_sum_bound xs k 1048576 hl 1000000 (by omega) hb
    by_cases hlt : k < xs.length
    · obtain ⟨b, off, rfl, hbl, hc⟩ := h.at_ (by omega)
      have hck := hc k hlt
      have hx := hb xs[k] (List.getElem_mem hlt)
      go_wp2
      go_round
      case rel => exact ⟨k + 1, by omega, by go_num, by rw [take_sum_succ xs k hlt]⟩
      case measure => simp [intOf]; omega
    · go_wp2
      go_ret
      exact ⟨ret_int (by rw [List.take_of_length_le (by omega)]), rfl⟩

def okB (g : Int) (x : Int) : Bool := decide (0 ≤ x) && decide (x ≤ g)
def amtB (xs : List Int) (m g : Int) : Bool := decide ((xs.length : Int) = m) && xs.all (okB g)

set_option maxHeartbeats 1000000 in
theorem amountsOk_any (A : Option Addr) (c : Nat) (xs : List Int) (m g : Int) (w : World) (B : Nat) (h : IS w B A xs) (hl : xs.length ≤ 9223372036854775807) :
    Calls Tryd.prog 44 #[.slice A xs.length c, .int .i64 m, .int .i64 g] w fun e w' => e = .returned (.bool (amtB xs m g)) ∧ w = w' := by
  by_cases hm : (xs.length : Int) = m
  · subst hm
    go_enter Tryd.func44, Tryd.ntmps44
    go_wp2
    go_loop [8, 15] (fun _ i => ∃ k : Nat, k ≤ xs.length ∧ i = .int .i64 k ∧ (xs.take k).all (okB g) = true) (fun _ i => xs.length - (intOf i).toNat)
    case atStart => exact ⟨0, Nat.zero_le _, rfl, by simp⟩
    case round =>
      obtain ⟨k, hk, rfl, ha⟩ := hrel
      have HA := Lib.hid ha
      clear ha
      by_cases hlt : k < xs.length
      · obtain ⟨b, off, rfl, hbl, hc⟩ := h.at_ (by omega)
        have hck := hc k hlt
        by_cases h1 : 0 ≤ xs[k]
        · by_cases h2 : xs[k] ≤ g
          · go_wp2
            go_round
            case rel => exact ⟨k + 1, by omega, by go_num, by rw [all_take_succ _ xs k hlt, HA.out]; simp [okB, h1, h2]⟩
            case measure => simp [intOf]; omega
          · go_wp2
            go_ret
            exact ⟨ret_bool (by rw [amtB, all_false _ xs k hlt (by simp [okB]; omega)]; simp), rfl⟩
        · go_wp2
          go_ret
          exact ⟨ret_bool (by rw [amtB, all_false _ xs k hlt (by simp [okB]; omega)]; simp), rfl⟩
      · go_wp2
        go_ret
        exact ⟨ret_bool (by rw [amtB, ← all_take_end _ xs k (by omega), HA.out]; simp), rfl⟩
  · have hm' : ((xs.length : Int) == m) = false := by simpa using hm
    go_enter Tryd.func44, Tryd.ntmps44
    go_wp2
    go_ret
    exact ⟨ret_bool (by simp [amtB, hm]), rfl⟩

/-- The call made a slice that holds xs; nothing that was there has changed. -/
def RetI (w : World) (xs : List Int) (e : Ending) (w' : World) : Prop := ∃ v, e = .returned v ∧ OI w' w.heap.size v xs ∧ Below w.heap.size w w'




/-- Two slices that hold the same are found equal. -/
def RetT (w : World) (e : Ending) (w' : World) : Prop := e = .returned (.bool true) ∧ ∃ n, w' = w.drewN n



set_option maxHeartbeats 1000000 in
theorem indices_any (n : Nat) (w : World) (hl : n ≤ 1048576) :
    Calls Tryd.prog 52 #[.int .i64 n] w (RetI w (idx n)) := by
  have hmk := run_make_row' (P := Tryd.prog) 23 3 (.int .i64 0) 8 Tryd.underlying23 int_info rfl .i64 .i64 n (by omega) (by omega)
  go_enter Tryd.func52, Tryd.ntmps52
  go_wp2
  clear hmk
  go_loopw [4, 9] (fun _ i wr => ∃ k : Nat, k ≤ n ∧ i = .int .i64 k ∧ Blk wr w.heap.size 3 (filled (.int .i64 0) (ints (idx k)) n) ∧ Below w.heap.size w wr) (fun _ i _ => n - (intOf i).toNat)
  case atStart => exact ⟨0, Nat.zero_le _, rfl, by simpa [ints, idx] using blk_made w _ _ _, (Below.refl _ _).alloc (Nat.le_refl _) _⟩
  case round =>
    obtain ⟨k, hk, rfl, hB, hW⟩ := hrel
    by_cases hlt : k < n
    · have hlk : (ints (idx k)).length = k := by simp [ints, idx]
      obtain ⟨hg1, hg2⟩ := hB.fillAt hlk hlt
      have hB2 := hB.fill hlk hlt (.int .i64 k)
      rw [show ints (idx k) ++ [.int .i64 (k : Int)] = ints (idx (k + 1)) by rw [idx_succ, ints_append]; rfl] at hB2
      have HB2 := Lib.hid hB2
      clear hB2 hlk hB
      go_wp2
      go_roundw
      case rel => exact ⟨k + 1, by omega, by go_num, HB2.out, hW.setCell (Nat.le_refl _) _⟩
      case measure => simp [intOf]; omega
    · obtain rfl : k = n := by omega
      go_wp2
      go_ret
      refine ⟨_, rfl, ?_, hW⟩
      rw [filled_all _ _ _ (by simp [ints, idx])] at hB
      have := hB.ownI (Nat.le_refl _) (by simp [maxLen, idx]; omega)
      rwa [idx_length] at this

def hasB (xs : List Int) (n : Int) : Bool := xs.any fun x => x == n
set_option maxHeartbeats 1000000 in
theorem l1Has_any (A : Option Addr) (c : Nat) (xs : List Int) (n : Int) (w : World) (B : Nat) (h : IS w B A xs) (hl : xs.length ≤ 1048576) :
    Calls Tryd.prog 50 #[.slice A xs.length c, .int .i64 n] w fun e w' => e = .returned (.bool (hasB xs n)) ∧ w = w' := by
  go_enter Tryd.func50, Tryd.ntmps50
  go_wp2
  go_loop [5] (fun i => ∃ k : Nat, k ≤ xs.length ∧ i = .int .i64 k ∧ (xs.take k).any (fun x => x == n) = false) (fun i => xs.length - (intOf i).toNat)
  case atStart => exact ⟨0, Nat.zero_le _, rfl, by simp⟩
  case round =>
    obtain ⟨k, hk, rfl, ha⟩ := hrel
    have HA := Lib.hid ha
    clear ha
    by_cases hlt : k < xs.length
    · obtain ⟨b, off, rfl, hbl, hc⟩ := h.at_ (by omega)
      have hck := hc k hlt
      by_cases h1 : (xs[k] == n) = true
      · go_wp2
        go_ret
        exact ⟨ret_bool (by rw [hasB, any_true _ xs k hlt h1]), rfl⟩
      · have h1' : (xs[k] == n) = false := by simpa using h1
        clear h1
        go_wp2
        go_round
        case rel => exact ⟨k + 1, by omega, by go_num, by rw [any_take_succ _ xs k hlt, HA.out, h1']; rfl⟩
        case measure => simp [intOf]; omega
    · go_wp2
      go_ret
      exact ⟨ret_bool (by rw [hasB, ← HA.out, List.take_of_length_le (by omega)]), rfl⟩

end Go.Proofs.YtnehedcelfpegaaDoor
