/- FnTicketMay: the law's walk. -/
import Derived.Test.YthbledeghanffaaDoorDrawTs
import Derived.Test.YthbledeghanffaaDoorCrsP
set_option linter.unusedVariables false
set_option linter.unusedSimpArgs false
namespace Go.Proofs.YthbledeghanffaaDoor
open Go.ChangeShapes Go.WideShapes Go.ChangeAt Go.RowKit

theorem quiet_add_leftM {P : Program} {f : FuncId} {args : Array Value} {w : World} {a n : Nat} {v : Value}
    (h : Calls P f args (w.drewN (a + n)) fun e w' => e = .returned v ∧ w.drewN (a + n) = w') :
    Calls P f args (w.drewN (a + n)) fun e w'' => e = .returned v ∧ ∃ m, w'' = w.drewN (a + m) :=
  h.mono fun _ _ ⟨he, hm⟩ => ⟨he, n, hm.symm⟩
theorem quiet_leftM {P : Program} {f : FuncId} {args : Array Value} {w : World} {n : Nat} {v : Value}
    (h : Calls P f args (w.drewN n) fun e w' => e = .returned v ∧ w.drewN n = w') : Calls P f args (w.drewN n) fun e w'' => e = .returned v ∧ ∃ m, w'' = w.drewN m :=
  h.mono fun _ _ ⟨he, hm⟩ => ⟨he, n, hm.symm⟩
set_option maxHeartbeats 1000000 in
theorem hasInt_any (A : Option Addr) (c : Nat) (xs : List Int) (n : Int) (w : World) (B : Nat) (h : IS w B A xs) (hl : xs.length ≤ 1048576) :
    Calls Tryd.prog 39 #[.slice A xs.length c, .int .i64 n] w fun e w' => e = .returned (.bool (decide (n ∈ xs))) ∧ w = w' := by
  go_enter Tryd.func39, Tryd.ntmps39
  go_wp2
  go_loop [5] (fun i => ∃ k : Nat, k ≤ xs.length ∧ i = .int .i64 k ∧ Hid (∀ j (hj : j < xs.length), j < k → xs[j] ≠ n)) (fun i => xs.length - (intOf i).toNat)
  case atStart => exact ⟨0, Nat.zero_le _, rfl, fun j hj h0 => by omega⟩
  case round =>
    obtain ⟨k, hk, rfl, HS⟩ := hrel
    by_cases hlt : k < xs.length
    · obtain ⟨b, off, rfl, hbl, hcc⟩ := h.at_ (by omega)
      have hck := hcc k hlt
      clear hcc
      cases hb : (xs[k] == n)
      · have HS2 : Hid (∀ j (hj : j < xs.length), j < k + 1 → xs[j] ≠ n) := by
          intro j hj hjk
          rcases Nat.lt_or_ge j k with h5 | h5
          · exact HS.out j hj h5
          · obtain rfl : j = k := by omega
            exact beq_eq_false_iff_ne.1 hb
        clear HS
        go_wp2
        go_round
        case rel => exact ⟨k + 1, by omega, by go_num, HS2⟩
        case measure => simp [intOf]; omega
      · have hin : Hid (decide (n ∈ xs) = true) := decide_eq_true (by rw [← beq_iff_eq.1 hb]; exact List.getElem_mem hlt)
        clear HS
        go_wp2
        go_ret
        exact ⟨ret_bool hin.out.symm, rfl⟩
    · obtain rfl : k = xs.length := by omega
      have hin : Hid (decide (n ∈ xs) = false) := decide_eq_false fun hm => by
        obtain ⟨j, hj, e⟩ := List.getElem_of_mem hm
        exact HS.out j hj hj e
      go_wp2
      go_ret
      exact ⟨ret_bool hin.out.symm, rfl⟩
set_option maxHeartbeats 1000000 in
theorem sameInts_e (A A' : Option Addr) (c c' : Nat) (xs : List Int) (w : World) (h : IS w w.heap.size A xs) (h' : IS w w.heap.size A' xs) (hl : xs.length ≤ 1048576) :
    Calls Tryd.prog 37 #[.slice A xs.length c, .slice A' xs.length c'] w (RetE w) := by
  go_enter Tryd.func37, Tryd.ntmps37
  go_wp2
  go_loopw [5] (fun i wr => ∃ k : Nat, k ≤ xs.length ∧ i = .int .i64 k ∧ Below w.heap.size w wr) (fun i _ => xs.length - (intOf i).toNat)
  case atStart => exact ⟨0, Nat.zero_le _, rfl, Below.refl _ _⟩
  case round =>
    obtain ⟨k, hk, rfl, hW⟩ := hrel
    by_cases hlt : k < xs.length
    · obtain ⟨b, off, rfl, hbl, hcc⟩ := IS.at_ (RV.below h hW) (by omega)
      obtain ⟨b', off', rfl, hbl', hcc'⟩ := IS.at_ (RV.below h' hW) (by omega)
      have e1 := hcc k hlt
      have e3 := hcc' k hlt
      clear hcc hcc'
      have hs := hW.size
      go_wp2_with fail
      go_quiet (fail)
      go_wp2
      go_roundw
      case rel => exact ⟨k + 1, by omega, by go_num, below_drewN hW _⟩
      case measure => simp [intOf]; omega
    · obtain rfl : k = xs.length := by omega
      go_wp2
      go_ret
      exact ⟨rfl, hW⟩
set_option maxHeartbeats 1000000 in
theorem ascend_e (A : Option Addr) (c : Nat) (xs : List Int) (w : World) (h : IS w w.heap.size A xs) (hl : xs.length ≤ 1048576) (ha : xs.Pairwise (· < ·)) :
    Calls Tryd.prog 40 #[.slice A xs.length c] w (RetE w) := by
  have HA : Hid (∀ i j (hi : i < xs.length) (hj : j < xs.length), i < j → xs[i] < xs[j]) := fun i j hi hj hij => List.pairwise_iff_getElem.1 ha i j hi hj hij
  clear ha
  go_enter Tryd.func40, Tryd.ntmps40
  go_wp2
  go_loopw [3] (fun i wr => ∃ k : Nat, k ≤ xs.length ∧ i = .int .i64 ((k : Int) + 1) ∧ Below w.heap.size w wr) (fun i _ => xs.length + 1 - (intOf i).toNat)
  case atStart => exact ⟨0, Nat.zero_le _, rfl, Below.refl _ _⟩
  case round =>
    obtain ⟨k, hk, rfl, hW⟩ := hrel
    by_cases hlt : k + 1 < xs.length
    · obtain ⟨b, off, rfl, hbl, hcc⟩ := IS.at_ (RV.below h hW) (by omega)
      have e1 := hcc k (by omega)
      have e3 := hcc (k + 1) hlt
      have hgt := HA.out k (k + 1) (by omega) hlt (by omega)
      have hw1 : IntKind.i64.wrap ((k : Int) + 1 - 1) = (k : Int) := by rw [IntKind.wrap_i64]; omega
      have hn1 : ((k : Int) + 1).toNat = k + 1 := by omega
      have hz1 : (k : Int) < (xs.length : Int) := by omega
      have hz2 : (k : Int) + 1 < (xs.length : Int) := by omega
      have hz3 : (0 : Int) ≤ (k : Int) + 1 := by omega
      have hd : decide (xs[k + 1] ≤ xs[k]) = false := decide_eq_false (by omega)
      clear hcc
      have hs := hW.size
      go_wp2_with fail
      go_quiet (fail)
      go_wp2
      go_roundw
      case rel => exact ⟨k + 1, by omega, by go_num, below_drewN hW _⟩
      case measure => simp [intOf]; omega
    · have hz2 : decide ((k : Int) + 1 < (xs.length : Int)) = false := decide_eq_false (by omega)
      go_wp2
      go_ret
      exact ⟨rfl, hW⟩

set_option maxRecDepth 20000 in
set_option maxHeartbeats 8000000 in
theorem walk_fnTicketMay (w : World) (A : Option Addr) (c : Nat) (xs : List Int) (h : RV w w.heap.size A (bts xs)) (hc : xs.length ≤ c) (hm : c ≤ maxLen) (hb : ∀ x ∈ xs, 0 ≤ x ∧ x ≤ 255) :
    Calls Tryd.prog 9 #[.slice A xs.length c] w fun e w' => e = .returned (.bool true) ∧ Below w.heap.size w w' := by
  unfold maxLen at hm
  by_cases hl : xs.length ≤ 1048576
  · have HD := Lib.hid (drawTicketMay_any A c xs w h hc hl hb)
    clear hb h
    have hd8 : decide ((1048576 : Int) < (xs.length : Int)) = false := decide_eq_false (by omega)
    go_enter Tryd.func9, Tryd.ntmps9
    go_wp2_with fail
    refine HD.out.mono ?_
    rintro e w1 ⟨v, os, rfl, o, hol, bel⟩
    obtain ⟨A1, c1, rfl, hr1, -⟩ := own_form o
    clear o HD
    have hml := mayF_len os (by omega)
    go_wp2_with fail
    refine (impl_ticketMay A1 c1 os _ hr1 (by omega)).mono ?_
    rintro e w2 ⟨v, rfl, o, b2⟩
    have hr1 := RV.step hr1 b2
    obtain ⟨A2, c2, rfl, hr2, -⟩ := own_form o
    clear o
    replace bel := below_step bel b2
    go_wp2_with fail
    refine (spec_ticketMay A1 c1 os _ hr1 (by omega)).mono ?_
    rintro e w3 ⟨v, rfl, o, b3⟩
    have hr1 := RV.step hr1 b3
    have hr2 := RV.step hr2 b3
    obtain ⟨A3, c3, rfl, hr3, -⟩ := own_form o
    clear o
    replace bel := below_step bel b3
    go_wp2_with fail
    refine (sameInts_e A2 A3 c2 c3 _ _ hr2 hr3 hml).mono ?_
    rintro e w4 ⟨rfl, b4⟩
    have hr1 := RV.step hr1 b4
    have hr2 := RV.step hr2 b4
    clear hr3
    replace bel := below_step bel b4
    go_wp2_with fail
    refine (spec_ticketValid A1 c1 os _ hr1 (by omega)).mono ?_
    rintro e w5 ⟨rfl, b5⟩
    have hr1 := RV.step hr1 b5
    have hr2 := RV.step hr2 b5
    replace bel := below_step bel b5
    cases ht : ticketB os
    · rw [mayF_bad ht]
      clear ht
      go_wp2_with fail
      refine (alive_any _).mono ?_
      rintro e w6 ⟨rfl, b6⟩
      go_wp2
      go_ret
      exact ⟨rfl, below_step bel b6⟩
    · have HP := Lib.hid (may_plain ht)
      have HA := Lib.hid (mayF_asc os)
      clear ht
      generalize mayF os = ms at *
      go_wp2_with fail
      refine (impl_ticketCourse A1 c1 os _ hr1 (by omega)).mono ?_
      rintro e w6 ⟨rfl, b6⟩
      have hr1 := RV.step hr1 b6
      have hr2 := RV.step hr2 b6
      replace bel := below_step bel b6
      generalize courseF os = co at *
      go_wp2
      go_loopw [6] (fun i wr => ∃ k : Nat, k ≤ os.length ∧ i = .int .i64 k ∧ Below w6.heap.size w6 wr) (fun i _ => os.length - (intOf i).toNat)
      case atStart => exact ⟨0, Nat.zero_le _, rfl, Below.refl _ _⟩
      case round =>
        obtain ⟨k, hk, rfl, hW⟩ := hrel
        by_cases hlt : k < os.length
        · obtain ⟨b, off, rfl, hbl, hcc⟩ := SO.at_ (RV.below hr1 hW) (by omega)
          obtain ⟨e1, e2⟩ := hcc k hlt
          have hp := HP.out k hlt
          clear hcc
          generalize os[k] = o at *
          obtain ⟨p, q⟩ := o
          dsimp only at e1 e2 hp
          have hq : ∀ n, Calls Tryd.prog 39 #[.slice A2 ms.length c2, .int .i64 k] (wr.drewN n) fun e w' => e = .returned (.bool (p == co && q == 0)) ∧ wr.drewN n = w' := by
            intro n
            have := hasInt_any A2 c2 ms (k : Int) (wr.drewN n) _ (RV.below hr2 (below_drewN hW n)) hml
            rw [hp] at this; exact this
          have HQ := Lib.hid hq
          have hs := hW.size
          clear hp hq
          cases hc1 : (p == co)
          · rw [hc1] at HQ
            go_wp2_with fail
            go_quiet ((first | (go_at_call 39; exact quiet_add_leftM (HQ.out _)) | (go_at_call 39; exact quiet_leftM (HQ.out _))))
            go_wp2
            go_roundw
            case rel => exact ⟨k + 1, by omega, by go_num, below_drewN hW _⟩
            case measure => simp [intOf]; omega
          · cases hc2 : (q == 0)
            all_goals
              rw [hc1, hc2] at HQ
              go_wp2_with fail
              go_quiet ((first | (go_at_call 39; exact quiet_add_leftM (HQ.out _)) | (go_at_call 39; exact quiet_leftM (HQ.out _))))
              go_wp2
              go_roundw
              (case rel => exact ⟨k + 1, by omega, by go_num, below_drewN hW _⟩)
              (case measure => simp [intOf]; omega)
        · obtain rfl : k = os.length := by omega
          have hr2' := RV.step hr2 hW
          replace bel := below_step bel hW
          clear hr1 hr2
          go_wp2_with fail
          refine (ascend_e A2 c2 ms _ hr2' hml HA.out).mono ?_
          rintro e w7 ⟨rfl, b7⟩
          go_wp2
          go_ret
          exact ⟨rfl, below_step bel b7⟩
  · go_enter Tryd.func9, Tryd.ntmps9
    go_wp2
    go_ret
    exact ⟨rfl, Below.refl _ _⟩
end Go.Proofs.YthbledeghanffaaDoor
