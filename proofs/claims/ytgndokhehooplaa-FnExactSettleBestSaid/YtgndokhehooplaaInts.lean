/- Contracts of the small functions over slices of numbers. -/
import Derived.Test.YtgndokhehooplaaRows
import Derived.Test.YtgndokhehooplaaMem
import Derived.ProofKit
import Derived.Deep.QuietTactic
import Derived.BigQuiet
import Derived.Laws.CopyOwn
set_option linter.unusedVariables false
set_option linter.unusedSimpArgs false
namespace Go.Proofs.Ytgndokhehooplaa
open Go.ChangeShapes Go.WideShapes Go.ChangeAt Go.RowKit

theorem int_info : (Try.prog.info? 3).map (fun i => (i.zero, i.size, i.bytes)) = some (some (.int .i64 0), 1, 8) := by kernel_rfl

def inB (n lo hi : Int) : Bool := decide (lo ≤ n) && decide (n ≤ hi)
theorem inB_true {n lo hi : Int} : inB n lo hi = true ↔ lo ≤ n ∧ n ≤ hi := by simp [inB]
theorem inB_false {n lo hi : Int} : inB n lo hi = false ↔ n < lo ∨ hi < n := by simp [inB]; omega

set_option maxHeartbeats 1000000 in
theorem l1In_any (n lo hi : Int) (w : World) :
    Calls Try.prog 39 #[.int .i64 n, .int .i64 lo, .int .i64 hi] w fun e w' => e = .returned (.bool (inB n lo hi)) ∧ w = w' := by
  by_cases h1 : lo ≤ n <;> by_cases h2 : n ≤ hi
  all_goals
    go_enter Try.func39, Try.ntmps39
    go_wp2
    go_ret
    exact ⟨ret_bool (by simp [inB, *] <;> omega), rfl⟩

set_option maxHeartbeats 1000000 in
theorem l1Sum_any (A : Option Addr) (c : Nat) (xs : List Int) (w : World) (B : Nat) (h : IS w B A xs) (hl : xs.length ≤ 1048576) (hb : ∀ x ∈ xs, -1000000 ≤ x ∧ x ≤ 1000000) :
    Calls Try.prog 40 #[.slice A xs.length c] w fun e w' => e = .returned (.int .i64 xs.sum) ∧ w = w' := by
  go_enter Try.func40, Try.ntmps40
  go_wp2
  go_loop [3, 4] (fun n i => ∃ k : Nat, k ≤ xs.length ∧ i = .int .i64 k ∧ n = .int .i64 (xs.take k).sum) (fun _ i => xs.length - (intOf i).toNat)
  case atStart => exact ⟨0, Nat.zero_le _, rfl, by simp⟩
  case round =>
    obtain ⟨k, hk, rfl, rfl⟩ := hrel
    have sb := take_sum_bound xs k 1048576 hl 1000000 (by omega) hb
    by_cases hlt : k < xs.length
    · obtain ⟨b, off, rfl, hbl, hc⟩ := h.at_ (by omega)
      have hck := hc k hlt
      have hx := hb xs[k] (List.getElem_mem hlt)
      go_wp2
      go_round
      case rel => exact ⟨k + 1, by omega, by go_num, by rw [take_sum_succ xs k hlt]⟩
      case measure => simp [intOf]; omega
    · go_wp2
      go_ret
      exact ⟨ret_int (by rw [List.take_of_length_le (by omega)]), rfl⟩

set_option maxHeartbeats 1000000 in
theorem sumOf_any (A : Option Addr) (c : Nat) (xs : List Int) (w : World) (B : Nat) (h : IS w B A xs) (hl : xs.length ≤ 1048576) (hb : ∀ x ∈ xs, -1000000 ≤ x ∧ x ≤ 1000000) :
    Calls Try.prog 43 #[.slice A xs.length c] w fun e w' => e = .returned (.int .i64 xs.sum) ∧ w = w' := by
  go_enter Try.func43, Try.ntmps43
  go_wp2
  go_loop [3, 8] (fun n i => ∃ k : Nat, k ≤ xs.length ∧ i = .int .i64 k ∧ n = .int .i64 (xs.take k).sum) (fun _ i => xs.length - (intOf i).toNat)
  case atStart => exact ⟨0, Nat.zero_le _, rfl, by simp⟩
  case round =>
    obtain ⟨k, hk, rfl, rfl⟩ := hrel
    have sb := take_sum_bound xs k 1048576 hl 1000000 (by omega) hb
    by_cases hlt : k < xs.length
    · obtain ⟨b, off, rfl, hbl, hc⟩ := h.at_ (by omega)
      have hck := hc k hlt
      have hx := hb xs[k] (List.getElem_mem hlt)
      go_wp2
      go_round
      case rel => exact ⟨k + 1, by omega, by go_num, by rw [take_sum_succ xs k hlt]⟩
      case measure => simp [intOf]; omega
    · go_wp2
      go_ret
      exact ⟨ret_int (by rw [List.take_of_length_le (by omega)]), rfl⟩

def okB (g : Int) (x : Int) : Bool := decide (0 ≤ x) && decide (x ≤ g)
def amtB (xs : List Int) (m g : Int) : Bool := decide ((xs.length : Int) = m) && xs.all (okB g)

set_option maxHeartbeats 1000000 in
theorem amountsOk_any (A : Option Addr) (c : Nat) (xs : List Int) (m g : Int) (w : World) (B : Nat) (h : IS w B A xs) (hl : xs.length ≤ 9223372036854775807) :
    Calls Try.prog 47 #[.slice A xs.length c, .int .i64 m, .int .i64 g] w fun e w' => e = .returned (.bool (amtB xs m g)) ∧ w = w' := by
  by_cases hm : (xs.length : Int) = m
  · subst hm
    go_enter Try.func47, Try.ntmps47
    go_wp2
    go_loop [8, 15] (fun _ i => ∃ k : Nat, k ≤ xs.length ∧ i = .int .i64 k ∧ (xs.take k).all (okB g) = true) (fun _ i => xs.length - (intOf i).toNat)
    case atStart => exact ⟨0, Nat.zero_le _, rfl, by simp⟩
    case round =>
      obtain ⟨k, hk, rfl, ha⟩ := hrel
      have HA := Lib.hid ha
      clear ha
      by_cases hlt : k < xs.length
      · obtain ⟨b, off, rfl, hbl, hc⟩ := h.at_ (by omega)
        have hck := hc k hlt
        by_cases h1 : 0 ≤ xs[k]
        · by_cases h2 : xs[k] ≤ g
          · go_wp2
            go_round
            case rel => exact ⟨k + 1, by omega, by go_num, by rw [all_take_succ _ xs k hlt, HA.out]; simp [okB, h1, h2]⟩
            case measure => simp [intOf]; omega
          · go_wp2
            go_ret
            exact ⟨ret_bool (by rw [amtB, all_false _ xs k hlt (by simp [okB]; omega)]; simp), rfl⟩
        · go_wp2
          go_ret
          exact ⟨ret_bool (by rw [amtB, all_false _ xs k hlt (by simp [okB]; omega)]; simp), rfl⟩
      · go_wp2
        go_ret
        exact ⟨ret_bool (by rw [amtB, ← all_take_end _ xs k (by omega), HA.out]; simp), rfl⟩
  · have hm' : ((xs.length : Int) == m) = false := by simpa using hm
    go_enter Try.func47, Try.ntmps47
    go_wp2
    go_ret
    exact ⟨ret_bool (by simp [amtB, hm]), rfl⟩

/-- The call made a slice that holds xs; nothing that was there has changed. -/
def RetI (w : World) (xs : List Int) (e : Ending) (w' : World) : Prop := ∃ v, e = .returned v ∧ OI w' w.heap.size v xs ∧ Below w.heap.size w w'

set_option maxHeartbeats 1000000 in
theorem toIntS_any (A : Option Addr) (c : Nat) (xs : List Int) (w : World) (h : IS w w.heap.size A xs) (hl : xs.length ≤ 1048576) :
    Calls Try.prog 10 #[.slice A xs.length c] w (RetI w xs) := by
  have hmk := run_make_row' (P := Try.prog) 22 3 (.int .i64 0) 8 Try.underlying22 int_info rfl .i64 .i64 xs.length (by omega) (by omega)
  go_enter Try.func10, Try.ntmps10
  go_wp2
  clear hmk
  go_loopw [4] (fun i wr => ∃ k : Nat, k ≤ xs.length ∧ i = .int .i64 k ∧ Blk wr w.heap.size 3 (filled (.int .i64 0) (ints (xs.take k)) xs.length) ∧ Below w.heap.size w wr) (fun i _ => xs.length - (intOf i).toNat)
  case atStart => exact ⟨0, Nat.zero_le _, rfl, by simpa [ints] using blk_made w _ _ _, (Below.refl _ _).alloc (Nat.le_refl _) _⟩
  case round =>
    obtain ⟨k, hk, rfl, hB, hW⟩ := hrel
    by_cases hlt : k < xs.length
    · have hlk : (ints (xs.take k)).length = k := by simp [ints]; omega
      obtain ⟨hg1, hg2⟩ := hB.fillAt hlk hlt
      have hB2 := hB.fill hlk hlt (.int .i64 xs[k])
      rw [← ints_take_succ xs k hlt] at hB2
      obtain ⟨b, off, rfl, hbl, hc⟩ := (h.below hW).at_ (by omega)
      have hck := hc k hlt
      have HB2 := Lib.hid hB2
      clear hB2 hlk hB
      go_wp2
      go_roundw
      case rel => exact ⟨k + 1, by omega, by go_num, HB2.out, hW.setCell (Nat.le_refl _) _⟩
      case measure => simp [intOf]; omega
    · obtain rfl : k = xs.length := by omega
      go_wp2
      go_ret
      refine ⟨_, rfl, ?_, hW⟩
      rw [filled_all _ _ _ (by simp [ints]), List.take_length] at hB
      exact hB.ownI (Nat.le_refl _) (by simp [maxLen]; omega)

set_option maxHeartbeats 1000000 in
theorem markIntS_any (v : Value) (xs : List Int) (m : Int) (w : World) (base : Nat) (h : OI w base v xs) (hl : xs.length ≤ 1048576) (h0 : 0 ≤ m) (h1 : m ≤ 1000000000) :
    Calls Try.prog 17 #[v, .int .i64 m] w fun e w' => e = .returned (.int .i64 (m + xs.length)) ∧ OI w' base v (marks m xs.length) ∧ w.grownBy w' v.ownBlock := by
  rcases h.2 with ⟨rfl, hn⟩ | ⟨g, cap, cur, rfl, hb, hg, hnc, hcm, hcs, htake⟩
  · have hx : xs = [] := List.eq_nil_of_length_eq_zero hn
    subst hx
    go_enter Try.func17, Try.ntmps17
    go_wp2
    refine wp_loop_rounds 1 ?_
    rw [rounds_succ]
    go_wp2
    go_ret
    exact ⟨by simp, by simpa [marks] using h, World.grownBy.refl _ _⟩
  · go_enter Try.func17, Try.ntmps17
    go_wp2
    go_loopw [1, 5] (fun q i wr => ∃ k : Nat, k ≤ xs.length ∧ i = .int .i64 k ∧ q = .int .i64 (m + k) ∧ wr.ownsRow base 3 1 (.slice (some ⟨g, 0, none⟩) xs.length cap) xs.length (ints (marks m k ++ xs.drop k)) ∧ w.grownBy wr (some g)) (fun _ i _ => xs.length - (intOf i).toNat)
    case atStart => exact ⟨0, Nat.zero_le _, rfl, by simp, by rw [show marks m 0 ++ xs.drop 0 = xs by simp [marks]]; exact h, World.grownBy.refl _ _⟩
    case round =>
      obtain ⟨k, hk, rfl, rfl, hO, hW⟩ := hrel
      by_cases hlt : k < xs.length
      · have hc1 := hO.cellAt k (by omega)
        rw [List.getElem?_eq_getElem (by simp [ints, marks]; omega)] at hc1
        have hc2 := hO.frozenAt k
        obtain ⟨hO2, hW2⟩ := hO.stored k (.int .i64 (m + k))
        rw [marks_set m xs k hlt] at hO2
        have HO2 := Lib.hid hO2
        clear hO2 hO
        go_wp2
        go_roundw
        case rel => exact ⟨k + 1, by omega, by go_num, by go_num, HO2.out, grown_trans hW hW2⟩
        case measure => simp [intOf]; omega
      · obtain rfl : k = xs.length := by omega
        go_wp2
        go_ret
        refine ⟨rfl, ?_, hW⟩
        have e : xs.drop xs.length = [] := by simp
        rw [e, List.append_nil] at hO
        unfold OI
        rw [marks_length]
        exact hO

set_option maxHeartbeats 1000000 in
theorem heldIntS_any (A : Option Addr) (c n : Nat) (m : Int) (w : World) (B : Nat) (h : IS w B A (marks m n)) (hl : n ≤ 1048576) (h0 : 0 ≤ m) (h1 : m ≤ 1000000000) :
    Calls Try.prog 18 #[.slice A n c, .int .i64 m] w fun e w' => e = .returned (.int .i64 (m + n)) ∧ w = w' := by
  go_enter Try.func18, Try.ntmps18
  go_wp2
  go_loop [1, 5] (fun q i => ∃ k : Nat, k ≤ n ∧ i = .int .i64 k ∧ q = .int .i64 (m + k)) (fun _ i => n - (intOf i).toNat)
  case atStart => exact ⟨0, Nat.zero_le _, rfl, by simp⟩
  case round =>
    obtain ⟨k, hk, rfl, rfl⟩ := hrel
    by_cases hlt : k < n
    · obtain ⟨b, off, rfl, hbl, hc⟩ := h.at_ (by rw [marks_length]; omega)
      have hck := hc k (by rw [marks_length]; omega)
      rw [marks_get] at hck
      go_wp2
      go_round
      case rel => exact ⟨k + 1, by omega, by go_num, by go_num⟩
      case measure => simp [intOf]; omega
    · obtain rfl : k = n := by omega
      go_wp2
      go_ret
      exact ⟨rfl, rfl⟩

/-- Two slices that hold the same are found equal. -/
def RetT (w : World) (e : Ending) (w' : World) : Prop := e = .returned (.bool true) ∧ ∃ n, w' = w.drewN n

set_option maxHeartbeats 1000000 in
theorem eqIntS_any (A A' : Option Addr) (c c' : Nat) (xs : List Int) (w : World) (B B' : Nat) (h : IS w B A xs) (h' : IS w B' A' xs) (hl : xs.length ≤ 1048576) :
    Calls Try.prog 12 #[.slice A xs.length c, .slice A' xs.length c'] w (RetT w) := by
  go_enter Try.func12, Try.ntmps12
  go_wp2
  go_loopw [5] (fun i wr => ∃ k : Nat, k ≤ xs.length ∧ i = .int .i64 k ∧ ∃ q, wr = w.drewN q) (fun i _ => xs.length - (intOf i).toNat)
  case atStart => exact ⟨0, Nat.zero_le _, rfl, 0, rfl⟩
  case round =>
    obtain ⟨k, hk, rfl, q, rfl⟩ := hrel
    by_cases hlt : k < xs.length
    · obtain ⟨b, off, rfl, hbl, hc⟩ := h.at_ (by omega)
      obtain ⟨b', off', rfl, hbl', hc'⟩ := h'.at_ (by omega)
      have hck := hc k hlt
      have hck' := hc' k hlt
      go_wp2_with fail
      go_quiet (fail)
      go_wp2
      go_roundw
      case rel => exact ⟨k + 1, by omega, by go_num, _, rfl⟩
      case measure => simp [intOf]; omega
    · go_wp2
      go_ret
      exact ⟨rfl, q, rfl⟩

theorem eqIntS_e (A A' : Option Addr) (c c' : Nat) (xs : List Int) (w : World) (h : RV w w.heap.size A (ints xs)) (h' : RV w w.heap.size A' (ints xs)) (hl : xs.length ≤ 1048576) :
    Calls Try.prog 12 #[.slice A xs.length c, .slice A' xs.length c'] w (RetE w) :=
  (eqIntS_any A A' c c' xs w _ _ h h' hl).mono fun _ _ ⟨h1, q, h2⟩ => ⟨h1, by rw [h2]; exact below_n q⟩
theorem markIntS_r (A : Option Addr) (c : Nat) (xs : List Int) (n : Nat) (m : Int) (w : World) (lo hi : Nat) (h : OwnR w lo hi 3 1 (.slice A n c) n (ints xs)) (hn : xs.length = n) (hl : n ≤ 1048576) (h0 : 0 ≤ m) (h1 : m ≤ 1000000000) :
    Calls Try.prog 17 #[.slice A n c, .int .i64 m] w (MarkP w lo hi 3 1 A c n m) := by
  subst hn
  refine (markIntS_any _ xs m w lo h.1 hl h0 h1).mono ?_
  rintro e w' ⟨rfl, ho, hg⟩
  refine ⟨by simp, ⟨?_, h.2⟩, Chg.of_grown hg fun g hg' => ⟨(World.ownsRow.lt h.1 g hg').1, h.2 g hg'⟩⟩
  have := ho
  unfold OI at this
  rw [marks_length] at this
  rwa [Nat.one_mul]
theorem heldIntS_r (A : Option Addr) (c n : Nat) (m : Int) (w : World) (B : Nat) (h : RV w B A (ints (marks m (1 * n)))) (hl : n ≤ 1048576) (h0 : 0 ≤ m) (h1 : m ≤ 1000000000) :
    Calls Try.prog 18 #[.slice A n c, .int .i64 m] w fun e w' => e = .returned (.int .i64 (m + ((1 : Nat) : Int) * n)) ∧ w = w' :=
  (heldIntS_any A c n m w B (by rw [Nat.one_mul] at h; exact h) hl h0 h1).mono fun _ _ ⟨a, b⟩ => ⟨by rw [a]; simp, b⟩

set_option maxHeartbeats 1000000 in
theorem indices_any (n : Nat) (w : World) (hl : n ≤ 1048576) :
    Calls Try.prog 44 #[.int .i64 n] w (RetI w (idx n)) := by
  have hmk := run_make_row' (P := Try.prog) 22 3 (.int .i64 0) 8 Try.underlying22 int_info rfl .i64 .i64 n (by omega) (by omega)
  go_enter Try.func44, Try.ntmps44
  go_wp2
  clear hmk
  go_loopw [4, 9] (fun _ i wr => ∃ k : Nat, k ≤ n ∧ i = .int .i64 k ∧ Blk wr w.heap.size 3 (filled (.int .i64 0) (ints (idx k)) n) ∧ Below w.heap.size w wr) (fun _ i _ => n - (intOf i).toNat)
  case atStart => exact ⟨0, Nat.zero_le _, rfl, by simpa [ints, idx] using blk_made w _ _ _, (Below.refl _ _).alloc (Nat.le_refl _) _⟩
  case round =>
    obtain ⟨k, hk, rfl, hB, hW⟩ := hrel
    by_cases hlt : k < n
    · have hlk : (ints (idx k)).length = k := by simp [ints, idx]
      obtain ⟨hg1, hg2⟩ := hB.fillAt hlk hlt
      have hB2 := hB.fill hlk hlt (.int .i64 k)
      rw [show ints (idx k) ++ [.int .i64 (k : Int)] = ints (idx (k + 1)) by rw [idx_succ, ints_append]; rfl] at hB2
      have HB2 := Lib.hid hB2
      clear hB2 hlk hB
      go_wp2
      go_roundw
      case rel => exact ⟨k + 1, by omega, by go_num, HB2.out, hW.setCell (Nat.le_refl _) _⟩
      case measure => simp [intOf]; omega
    · obtain rfl : k = n := by omega
      go_wp2
      go_ret
      refine ⟨_, rfl, ?_, hW⟩
      rw [filled_all _ _ _ (by simp [ints, idx])] at hB
      have := hB.ownI (Nat.le_refl _) (by simp [maxLen, idx]; omega)
      rwa [idx_length] at this

def hasB (xs : List Int) (n : Int) : Bool := xs.any fun x => x == n
set_option maxHeartbeats 1000000 in
theorem l1Has_any (A : Option Addr) (c : Nat) (xs : List Int) (n : Int) (w : World) (B : Nat) (h : IS w B A xs) (hl : xs.length ≤ 1048576) :
    Calls Try.prog 41 #[.slice A xs.length c, .int .i64 n] w fun e w' => e = .returned (.bool (hasB xs n)) ∧ w = w' := by
  go_enter Try.func41, Try.ntmps41
  go_wp2
  go_loop [5] (fun i => ∃ k : Nat, k ≤ xs.length ∧ i = .int .i64 k ∧ (xs.take k).any (fun x => x == n) = false) (fun i => xs.length - (intOf i).toNat)
  case atStart => exact ⟨0, Nat.zero_le _, rfl, by simp⟩
  case round =>
    obtain ⟨k, hk, rfl, ha⟩ := hrel
    have HA := Lib.hid ha
    clear ha
    by_cases hlt : k < xs.length
    · obtain ⟨b, off, rfl, hbl, hc⟩ := h.at_ (by omega)
      have hck := hc k hlt
      by_cases h1 : (xs[k] == n) = true
      · go_wp2
        go_ret
        exact ⟨ret_bool (by rw [hasB, any_true _ xs k hlt h1]), rfl⟩
      · have h1' : (xs[k] == n) = false := by simpa using h1
        clear h1
        go_wp2
        go_round
        case rel => exact ⟨k + 1, by omega, by go_num, by rw [any_take_succ _ xs k hlt, HA.out, h1']; rfl⟩
        case measure => simp [intOf]; omega
    · go_wp2
      go_ret
      exact ⟨ret_bool (by rw [hasB, ← HA.out, List.take_of_length_le (by omega)]), rfl⟩

set_option maxHeartbeats 1000000 in
theorem copyInts_any (A : Option Addr) (c : Nat) (xs : List Int) (w : World) (h : IS w w.heap.size A xs) (hl : xs.length ≤ 1048576) :
    Calls Try.prog 48 #[.slice A xs.length c] w (RetI w xs) := by
  by_cases hz : 0 < xs.length
  · have hz1 : ((xs.length : Int) == 0) = false := by simp; intro e; rw [e] at hz; simp at hz
    obtain ⟨b, off, rfl, hbl, hc⟩ := h (by rw [ints_length]; exact hz)
    have hmk := run_make_row' (P := Try.prog) 22 3 (.int .i64 0) 8 Try.underlying22 int_info rfl .i64 .i64 xs.length (by omega) (by omega)
    have hcp := run_copy_full (P := Try.prog) (w.alloc (.cells (madeCells #[.int .i64 0] xs.length) 3)) 22 22 3 3 w.heap.size xs.length c 1 b off _ 3 (ints xs) Try.underlying22 (by kernel_rfl) (heap_alloc_new _ _) (by simp [ints]) (by simp [size_madeCells])
      (fun j hj => by rw [World.cell?_alloc_lt _ _ _ (by simpa using hbl)]; exact hc j hj) (ints_one xs)
    have hw := setRow_heap (w.alloc (.cells (madeCells #[.int .i64 0] xs.length) 3)) w.heap.size (madeCells #[.int .i64 0] xs.length) (ints xs).toArray 3 (0, 0) (heap_alloc_new _ _)
    have hW := Lib.hid hw
    clear hw
    go_enter Try.func48, Try.ntmps48
    go_wp2
    go_ret
    refine ⟨_, rfl, Blk.ownI hW.out (Nat.le_refl _) (by simp [maxLen]; omega), ?_⟩
    exact below_row ((Below.refl _ _).alloc (Nat.le_refl _) _) (Nat.le_refl _) _
  · have hx : xs = [] := List.eq_nil_of_length_eq_zero (by omega)
    subst hx
    go_enter Try.func48, Try.ntmps48
    go_wp2
    go_ret
    exact ⟨_, rfl, OI.nil _ _, Below.refl _ _⟩
end Go.Proofs.Ytgndokhehooplaa
