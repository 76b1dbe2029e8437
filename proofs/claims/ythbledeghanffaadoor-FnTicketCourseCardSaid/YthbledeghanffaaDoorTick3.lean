/- TicketNew, TicketDo, TicketMay: what the program and the reference compute. -/
import Derived.Test.YthbledeghanffaaDoorTick2
set_option linter.unusedVariables false
set_option linter.unusedSimpArgs false
namespace Go.Proofs.YthbledeghanffaaDoor
open Go.ChangeShapes Go.WideShapes Go.ChangeAt Go.RowKit

theorem ord_EI : EI Tryd.prog 25 30 2 16 := EI.mk Tryd.underlying25 order_info rfl (by omega)
theorem int_EI : EI Tryd.prog 23 3 1 8 := EI.mk Tryd.underlying23 int_info rfl (by omega)

/-! ### TicketNew -/
def ordered (xs : List Int) : List Ord := xs.map fun c => (c, 0)
theorem ordered_length (xs : List Int) : (ordered xs).length = xs.length := by simp [ordered]
def newF (xs : List Int) : List Ord := if xs.all (okB 2) && decide (xs.length ≤ 6) then ordered xs else []
theorem newF_len (xs : List Int) : (newF xs).length ≤ 1048576 := by
  unfold newF
  split
  · rename_i h
    rw [Bool.and_eq_true, decide_eq_true_eq] at h
    rw [ordered_length]
    omega
  · simp
theorem ordered_take_succ (xs : List Int) (k : Nat) (h : k < xs.length) : ords (ordered (xs.take (k + 1))) = ords (ordered (xs.take k)) ++ [.int .i64 xs[k], .int .i64 0] := by
  unfold ordered; rw [List.take_succ_eq_append_getElem h, List.map_append]; simp only [ords, flat_append]; rfl

set_option maxHeartbeats 2000000 in
theorem spec_ticketNew (A : Option Addr) (c : Nat) (xs : List Int) (w : World) (h : IS w w.heap.size A xs) (hl : xs.length ≤ 1048576) :
    Calls Tryd.prog 17 #[.slice A xs.length c] w (RetO w (newF xs)) := by
  by_cases h6 : xs.length ≤ 6
  · go_enter Tryd.func17, Tryd.ntmps17
    go_wp2
    go_loopw [3, 4] (fun v i wr => ∃ (k : Nat) (v0 : Value), k ≤ xs.length ∧ v0 = v ∧ i = .int .i64 k ∧ (xs.take k).all (okB 2) = true ∧ OO wr w.heap.size v0 (ordered (xs.take k)) ∧ Below w.heap.size w wr) (fun _ i _ => xs.length - (intOf i).toNat)
    case atStart => exact ⟨0, _, Nat.zero_le _, rfl, rfl, by simp, own_empty w _ 2 _ (Nat.le_refl _), (Below.refl _ _).alloc (Nat.le_refl _) _⟩
    case round =>
      obtain ⟨k, v, hk, rfl, rfl, ha, hO, hW⟩ := hrel
      have HA := Lib.hid ha
      clear ha
      by_cases hlt : k < xs.length
      · obtain ⟨b, off, rfl, hbl, hc⟩ := (h.below hW).at_ (by omega)
        have hck := hc k hlt
        cases h1 : inB xs[k] 0 2
        · go_wp2_with (go_at_call 56; refine (l1In_any _ _ _ _).mono ?_; rintro e w' ⟨rfl, rfl⟩)
          go_ret
          refine ⟨_, rfl, ?_, below_al hW _⟩
          have e : newF xs = [] := by rw [newF, all_false _ xs k hlt h1]; rfl
          rw [e]
          exact own_empty _ _ 2 _ hW.size
        · have hn : (ordered (xs.take k)).length = k := by rw [ordered_length, List.length_take]; omega
          unfold OO at hO
          rw [hn] at hO
          have HN := Lib.hid hn
          clear hn
          go_wp2_with (first | (go_at_call 56; refine (l1In_any _ _ _ _).mono ?_; rintro e w' ⟨rfl, rfl⟩) | (at_builtin; refine wpList_app _ rfl (.tmp 24) (.tmp 30) 25 rfl ord_EI w.heap.size v k _ rfl (hO.alloc _) (some ⟨wr.heap.size, 0, none⟩) 1 1 [.int .i64 xs[k], .int .i64 0] rfl rfl (rv_new _ _ _) (one2 _ _) (le_max (by omega)) (by omega) (below_al hW _).size ?_; intro v2 w2 hO2 hg2 _))
          go_roundw
          case rel => exact ⟨k + 1, _, by omega, rfl, by go_num, by rw [all_take_succ _ xs k hlt, HA.out]; exact h1, by unfold OO; rw [ordered_take_succ xs k hlt, show (ordered (xs.take (k + 1))).length = k + 1 by rw [ordered_length, List.length_take]; omega]; exact hO2, below_app (below_al hW _) (hO.alloc _) hg2⟩
          case measure => simp [intOf]; omega
      · obtain rfl : k = xs.length := by omega
        rw [List.take_length] at HA hO
        go_wp2
        go_ret
        refine ⟨_, rfl, ?_, hW⟩
        have e : newF xs = ordered xs := by rw [newF, HA.out, decide_eq_true h6]; rfl
        rw [e]
        exact hO
  · have e : newF xs = [] := by rw [newF, decide_eq_false h6]; simp
    have E := Lib.hid e
    clear e
    obtain ⟨b, off, rfl, hbl, hc⟩ := h.at_ (by omega)
    have hck : w.cell? ⟨b, off, none⟩ = some (.int .i64 xs[0]) := hc 0 (by omega)
    clear hc
    have h0 : (0 : Nat) < xs.length := by omega
    cases h1 : inB xs[0] 0 2
    all_goals
      go_enter Tryd.func17, Tryd.ntmps17
      go_wp2
      refine wp_loop_rounds 1 ?_
      rw [rounds_succ]
      go_wp2_with (go_at_call 56; refine (l1In_any _ _ _ _).mono ?_; rintro e w' ⟨rfl, rfl⟩)
      go_ret
      refine ⟨_, rfl, ?_, below_al (below_al (Below.refl _ _) _) _⟩
      rw [E.out]
      exact own_empty' _ _ 2 _ (by simp) (by simp)

theorem ordered_take_succ2 (xs : List Int) (k : Nat) (h : k < xs.length) : ords (ordered (xs.take (k + 1))) = ords (ordered (xs.take k)) ++ [.int .i64 xs[k]] ++ [.int .i64 0] := by
  rw [ordered_take_succ xs k h]; simp
set_option maxHeartbeats 2000000 in
theorem impl_ticketNew (A : Option Addr) (c : Nat) (xs : List Int) (w : World) (h : IS w w.heap.size A xs) (hl : xs.length ≤ 1048576) :
    Calls Tryd.prog 15 #[.slice A xs.length c] w (RetO w (newF xs)) := by
  by_cases h6 : xs.length ≤ 6
  · have hd6 : decide ((6 : Int) < (xs.length : Int)) = false := by simp; omega
    cases ha : amtB xs xs.length 2
    · have e : newF xs = [] := by
        have : xs.all (okB 2) = false := by simpa [amtB] using ha
        rw [newF, this]; rfl
      have E := Lib.hid e
      clear e
      go_enter Tryd.func15, Tryd.ntmps15
      go_wp2_with (go_at_call 55; refine (amountsOk_any _ _ _ _ _ _ _ h (by omega)).mono ?_; rintro e w' ⟨rfl, rfl⟩)
      go_ret
      exact ⟨_, rfl, by rw [E.out]; exact OO.nil _ _, Below.refl _ _⟩
    · have e : newF xs = ordered xs := by
        have : xs.all (okB 2) = true := by simpa [amtB] using ha
        rw [newF, this, decide_eq_true h6]; rfl
      have E := Lib.hid e
      clear e
      have hmk := run_make_rowN (P := Tryd.prog) 25 30 #[.int .i64 0, .int .i64 0] 2 16 Tryd.underlying25 order_info .i64 .i64 xs.length (by omega) (by omega)
      go_enter Tryd.func15, Tryd.ntmps15
      go_wp2_with (go_at_call 55; refine (amountsOk_any _ _ _ _ _ _ _ h (by omega)).mono ?_; rintro e w' ⟨rfl, rfl⟩)
      clear hmk
      go_loopw [4, 5, 21] (fun _ _ i wr => ∃ k : Nat, k ≤ xs.length ∧ i = .int .i64 k ∧ Blk wr w.heap.size 30 (filled (.int .i64 0) (ords (ordered (xs.take k))) (xs.length * 2)) ∧ Below w.heap.size w wr) (fun _ _ i _ => xs.length - (intOf i).toNat)
      case atStart => exact ⟨0, Nat.zero_le _, rfl, by simpa [ords, flat, ordered] using blk_made2 w _ _ _, (Below.refl _ _).alloc (Nat.le_refl _) _⟩
      case round =>
        obtain ⟨k, hk, rfl, hB, hW⟩ := hrel
        by_cases hlt : k < xs.length
        · have hlk : (ords (ordered (xs.take k))).length = k * 2 := by rw [ords_length, ordered_length, List.length_take]; omega
          obtain ⟨b, off, rfl, hbl, hc⟩ := (h.below hW).at_ (by omega)
          have hck := hc k hlt
          obtain ⟨hg1, hg2⟩ := hB.fillAt hlk (by omega)
          have hB2 := hB.fill hlk (by omega) (.int .i64 xs[k])
          have hlk2 : (ords (ordered (xs.take k)) ++ [Value.int .i64 xs[k]]).length = k * 2 + 1 := by rw [List.length_append, hlk]; rfl
          obtain ⟨hg3, hg4⟩ := hB2.fillAt hlk2 (by omega)
          have hB3 := hB2.fill hlk2 (by omega) (.int .i64 0)
          rw [← ordered_take_succ2 xs k hlt] at hB3
          have HB3 := Lib.hid hB3
          clear hB3 hB2 hB hlk2 hlk
          go_wp2
          go_roundw
          case rel => exact ⟨k + 1, by omega, by go_num, HB3.out, (hW.setCell (Nat.le_refl _) _).setCell (Nat.le_refl _) _⟩
          case measure => simp [intOf]; omega
        · obtain rfl : k = xs.length := by omega
          go_wp2
          go_ret
          refine ⟨_, rfl, ?_, hW⟩
          rw [E.out]
          rw [filled_all _ _ _ (by rw [ords_length, ordered_length, List.length_take]; omega), List.take_length] at hB
          have := hB.ownO (Nat.le_refl _) (by rw [ordered_length]; simp [maxLen]; omega)
          rwa [ordered_length] at this
  · have e : newF xs = [] := by rw [newF, decide_eq_false h6]; simp
    have E := Lib.hid e
    clear e
    have hd6 : decide ((6 : Int) < (xs.length : Int)) = true := by simp; omega
    go_enter Tryd.func15, Tryd.ntmps15
    go_wp2
    go_ret
    exact ⟨_, rfl, by rw [E.out]; exact OO.nil _ _, Below.refl _ _⟩
end Go.Proofs.YthbledeghanffaaDoor
