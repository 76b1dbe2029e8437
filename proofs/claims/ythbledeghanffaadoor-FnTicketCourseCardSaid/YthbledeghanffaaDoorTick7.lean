/- TicketMay: what the program and the reference compute. -/
import Derived.Test.YthbledeghanffaaDoorTick6
set_option linter.unusedVariables false
set_option linter.unusedSimpArgs false
namespace Go.Proofs.YthbledeghanffaaDoor
open Go.ChangeShapes Go.WideShapes Go.ChangeAt Go.RowKit

def mayK (os : List Ord) (k : Nat) : List Int := ((List.range k).filter fun j : Nat => (doF os (j : Int) 0).2).map fun j : Nat => (j : Int)
def mayF (os : List Ord) : List Int := mayK os os.length
theorem mayK_le (os : List Ord) (k : Nat) : (mayK os k).length ≤ k := by
  unfold mayK
  rw [List.length_map]
  exact Nat.le_trans (List.length_filter_le _ _) (by simp)
theorem mayK_yes (os : List Ord) (k : Nat) (h : (doF os (k : Int) 0).2 = true) : mayK os (k + 1) = mayK os k ++ [(k : Int)] := by
  simp [mayK, List.range_succ, List.filter_append, h]
theorem mayK_no (os : List Ord) (k : Nat) (h : (doF os (k : Int) 0).2 = false) : mayK os (k + 1) = mayK os k := by
  simp [mayK, List.range_succ, List.filter_append, h]
theorem mayF_bad {os : List Ord} (h : ticketB os = false) : mayF os = [] := by
  simp [mayF, mayK, doF_1 _ _ h]
theorem mayF_len (os : List Ord) (hl : os.length ≤ 1048576) : (mayF os).length ≤ 1048576 := Nat.le_trans (mayK_le _ _) hl
theorem OI.push {w : World} {base : Nat} {v : Value} {xs : List Int} {x : Int} (h : w.ownsRow base 3 1 v (xs.length + 1) (ints xs ++ [.int .i64 x])) : OI w base v (xs ++ [x]) := by
  unfold OI
  rw [ints_append, List.length_append]
  exact h

set_option maxHeartbeats 4000000 in
theorem spec_ticketMay (A : Option Addr) (c : Nat) (os : List Ord) (w : World) (h : SO w w.heap.size A os) (hl : os.length ≤ 1048576) :
    Calls Tryd.prog 38 #[.slice A os.length c] w (RetI w (mayF os)) := by
  go_enter Tryd.func38, Tryd.ntmps38
  go_wp2
  go_loopw [3, 4] (fun v i wr => ∃ (k : Nat) (v0 : Value), k ≤ os.length ∧ v0 = v ∧ i = .int .i64 k ∧ OI wr w.heap.size v0 (mayK os k) ∧ Below w.heap.size w wr) (fun _ i _ => os.length - (intOf i).toNat)
  case atStart => exact ⟨0, _, Nat.zero_le _, rfl, rfl, own_empty w _ 1 _ (Nat.le_refl _), (Below.refl _ _).alloc (Nat.le_refl _) _⟩
  case round =>
    obtain ⟨k, v, hk, rfl, rfl, hO, hW⟩ := hrel
    by_cases hlt : k < os.length
    · have hs := (h.below hW).more hW.size
      have hm := mayK_le os k
      go_wp2_with fail
      refine (spec_ticketDo _ _ _ _ _ _ hs hl).mono ?_
      rintro e w1 ⟨v1, rfl, o1, b1⟩
      have hW1 := below_step hW b1
      have hO1 := hO.below b1
      clear o1
      cases hd : (doF os (k : Int) 0).2
      · have e1 := mayK_no os k hd
        have E1 := Lib.hid e1
        clear e1 hO
        unfold OI at hO1
        have H1 := Lib.hid hO1
        clear hO1
        go_wp2
        go_roundw
        case rel => exact ⟨k + 1, _, by omega, rfl, by go_num, by unfold OI; rw [E1.out]; exact H1.out, hW1⟩
        case measure => simp [intOf]; omega
      · have e1 := mayK_yes os k hd
        have E1 := Lib.hid e1
        clear e1 hO
        unfold OI at hO1
        go_wp2_with (at_builtin; refine wpList_app _ rfl (.tmp 21) (.tmp 23) 23 rfl int_EI w.heap.size v (mayK os k).length _ rfl (hO1.alloc _) (some ⟨w1.heap.size, 0, none⟩) 1 1 [.int .i64 k] rfl rfl (rv_new _ _ _) (one1 _) (le_max (by omega)) (by omega) (below_al hW1 _).size ?_; intro v2 w2 hO2 hg2 _)
        go_roundw
        case rel => exact ⟨k + 1, _, by omega, rfl, by go_num, by rw [E1.out]; exact OI.push hO2, below_app (below_al hW1 _) (hO1.alloc _) hg2⟩
        case measure => simp [intOf]; omega
    · obtain rfl : k = os.length := by omega
      go_wp2
      go_ret
      exact ⟨_, rfl, hO, hW⟩

set_option maxHeartbeats 4000000 in
theorem impl_ticketMay (A : Option Addr) (c : Nat) (os : List Ord) (w : World) (h : SO w w.heap.size A os) (hl : os.length ≤ 1048576) :
    Calls Tryd.prog 36 #[.slice A os.length c] w (RetI w (mayF os)) := by
  cases ht : ticketB os
  · have E := Lib.hid (mayF_bad ht)
    go_enter Tryd.func36, Tryd.ntmps36
    go_wp2_with (go_at_call 19; refine (impl_ticketValid _ _ _ _ h hl).mono ?_; rintro e w1 ⟨rfl, b1⟩)
    go_ret
    exact ⟨_, rfl, by rw [E.out]; exact OI.nil _ _, b1⟩
  · go_enter Tryd.func36, Tryd.ntmps36
    go_wp2_with fail
    refine (impl_ticketValid _ _ _ _ h hl).mono ?_
    rintro e w1 ⟨rfl, b0⟩
    go_wp2
    go_loopw [3, 12] (fun v i wr => ∃ (k : Nat) (v0 : Value), k ≤ os.length ∧ v0 = v ∧ i = .int .i64 k ∧ OI wr w.heap.size v0 (mayK os k) ∧ Below w.heap.size w wr) (fun _ i _ => os.length - (intOf i).toNat)
    case atStart => exact ⟨0, _, Nat.zero_le _, rfl, rfl, OI.nil _ _, b0⟩
    case round =>
      obtain ⟨k, v, hk, rfl, rfl, hO, hW⟩ := hrel
      by_cases hlt : k < os.length
      · have hs := (h.below hW).more hW.size
        have hm := mayK_le os k
        go_wp2_with fail
        refine (impl_ticketDo _ _ _ _ _ _ hs hl).mono ?_
        rintro e w1 ⟨v1, rfl, o1, b1⟩
        have hW1 := below_step hW b1
        have hO1 := hO.below b1
        clear o1
        cases hd : (doF os (k : Int) 0).2
        · have e1 := mayK_no os k hd
          have E1 := Lib.hid e1
          clear e1 hO
          unfold OI at hO1
          have H1 := Lib.hid hO1
          clear hO1
          go_wp2
          go_roundw
          case rel => exact ⟨k + 1, _, by omega, rfl, by go_num, by unfold OI; rw [E1.out]; exact H1.out, hW1⟩
          case measure => simp [intOf]; omega
        · have e1 := mayK_yes os k hd
          have E1 := Lib.hid e1
          clear e1 hO
          unfold OI at hO1
          go_wp2_with (at_builtin; refine wpList_app _ rfl (.tmp 22) (.tmp 24) 23 rfl int_EI w.heap.size v (mayK os k).length _ rfl (hO1.alloc _) (some ⟨w1.heap.size, 0, none⟩) 1 1 [.int .i64 k] rfl rfl (rv_new _ _ _) (one1 _) (le_max (by omega)) (by omega) (below_al hW1 _).size ?_; intro v2 w2 hO2 hg2 _)
          go_roundw
          case rel => exact ⟨k + 1, _, by omega, rfl, by go_num, by rw [E1.out]; exact OI.push hO2, below_app (below_al hW1 _) (hO1.alloc _) hg2⟩
          case measure => simp [intOf]; omega
      · obtain rfl : k = os.length := by omega
        go_wp2
        go_ret
        exact ⟨_, rfl, hO, hW⟩
end Go.Proofs.YthbledeghanffaaDoor
