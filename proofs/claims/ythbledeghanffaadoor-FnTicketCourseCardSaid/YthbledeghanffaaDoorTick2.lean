/- TicketCourse, TicketDone, KitchenValid: what the program and the reference compute. -/
import Derived.Test.YthbledeghanffaaDoorTick1
set_option linter.unusedVariables false
set_option linter.unusedSimpArgs false
namespace Go.Proofs.YthbledeghanffaaDoor
open Go.ChangeShapes Go.WideShapes Go.ChangeAt Go.RowKit

def crsStep (acc : Int) (o : Ord) : Int := if o.2 < 3 ∧ (acc < 0 ∨ o.1 < acc) then o.1 else acc
def crs (os : List Ord) : Int := os.foldl crsStep (-1)
def courseF (os : List Ord) : Int := if ticketB os = true then crs os else -1
theorem foldl_take_succ {α β : Type} (f : β → α → β) (b : β) (xs : List α) (k : Nat) (h : k < xs.length) : (xs.take (k + 1)).foldl f b = f ((xs.take k).foldl f b) xs[k] := by
  rw [List.take_succ_eq_append_getElem h, List.foldl_append]; rfl
theorem crs_succ (os : List Ord) (k : Nat) (h : k < os.length) (acc : Int) (ha : Hid (acc = crs (os.take k))) : crsStep acc os[k] = crs (os.take (k + 1)) := by
  rw [crs, foldl_take_succ _ _ os k h, ha.out]; rfl
theorem courseF_no {os : List Ord} (h : ticketB os = false) : courseF os = -1 := by simp [courseF, h]
theorem courseF_yes {os : List Ord} (h : ticketB os = true) : courseF os = crs os := by simp [courseF, h]

set_option maxHeartbeats 2000000 in
theorem spec_ticketCourse (A : Option Addr) (c : Nat) (os : List Ord) (w : World) (h : SO w w.heap.size A os) (hl : os.length ≤ 1048576) :
    Calls Tryd.prog 25 #[.slice A os.length c] w fun e w' => e = .returned (.int .i64 (courseF os)) ∧ Below w.heap.size w w' := by
  cases ht : ticketB os
  · have HT := Lib.hid (courseF_no ht)
    by_cases hz : 0 < os.length
    · go_enter Tryd.func25, Tryd.ntmps25
      go_wp2
      refine wp_loop_rounds 1 ?_
      rw [rounds_succ]
      go_wp2_with (go_at_call 22; refine (spec_ticketValid _ _ _ _ h hl).mono ?_; rintro e w1 ⟨rfl, b1⟩)
      go_ret
      exact ⟨ret_int HT.out.symm, b1⟩
    · have hx : os = [] := List.eq_nil_of_length_eq_zero (by omega)
      subst hx
      simp [ticketB] at ht
  · have HT := Lib.hid (courseF_yes ht)
    go_enter Tryd.func25, Tryd.ntmps25
    go_wp2
    go_loopw [3, 4] (fun t i wr => ∃ (k : Nat) (acc : Int), k ≤ os.length ∧ i = .int .i64 k ∧ t = .int .i64 acc ∧ acc = crs (os.take k) ∧ Below w.heap.size w wr) (fun _ i _ => os.length - (intOf i).toNat)
    case atStart => exact ⟨0, -1, Nat.zero_le _, rfl, rfl, rfl, Below.refl _ _⟩
    case round =>
      obtain ⟨k, acc, hk, rfl, rfl, ha, hW⟩ := hrel
      have HA := Lib.hid ha
      clear ha
      by_cases hlt : k < os.length
      · have hs := (h.below hW).more hW.size
        go_wp2_with fail
        refine (spec_ticketValid _ _ _ _ hs hl).mono ?_
        rintro e w1 ⟨rfl, b1⟩
        have hW1 := below_step hW b1
        obtain ⟨b, off, rfl, hbl, hc⟩ := (h.below hW1).at_ (by omega)
        obtain ⟨hck1, hck2⟩ := hc k hlt
        have HS := Lib.hid (crs_succ os k hlt acc HA)
        by_cases h1 : os[k].2 < 3
        · by_cases h2 : acc < 0
          · go_wp2
            go_roundw
            case rel => exact ⟨k + 1, os[k].1, by omega, by go_num, rfl, by rw [← HS.out]; simp [crsStep, h1, h2], hW1⟩
            case measure => simp [intOf]; omega
          · replace h2 : 0 ≤ acc := by omega
            have hd2 : decide (acc < 0) = false := by simp; omega
            by_cases h3 : os[k].1 < acc
            · go_wp2
              go_roundw
              case rel => exact ⟨k + 1, os[k].1, by omega, by go_num, rfl, by rw [← HS.out]; simp [crsStep, h1, h3], hW1⟩
              case measure => simp [intOf]; omega
            · replace h3 : acc ≤ os[k].1 := by omega
              have hd3 : decide (os[k].1 < acc) = false := by simp; omega
              go_wp2
              go_roundw
              case rel => exact ⟨k + 1, acc, by omega, by go_num, rfl, by rw [← HS.out, crsStep, if_neg (by omega)], hW1⟩
              case measure => simp [intOf]; omega
        · replace h1 : 3 ≤ os[k].2 := by omega
          go_wp2
          go_roundw
          case rel => exact ⟨k + 1, acc, by omega, by go_num, rfl, by rw [← HS.out, crsStep, if_neg (by omega)], hW1⟩
          case measure => simp [intOf]; omega
      · obtain rfl : k = os.length := by omega
        rw [List.take_length] at HA
        go_wp2
        go_ret
        exact ⟨ret_int (by rw [HT.out, HA.out]), hW⟩

theorem fin_of_ticket {os : List Ord} (h : ticketB os = true) : ∀ o ∈ os, finB o = !decide (o.2 < 3) := by
  intro o ho
  simp only [ticketB, Bool.and_eq_true] at h
  exact fin_range (List.all_eq_true.1 (ticket_range h.1) o ho)

set_option maxHeartbeats 2000000 in
theorem impl_ticketCourse (A : Option Addr) (c : Nat) (os : List Ord) (w : World) (h : SO w w.heap.size A os) (hl : os.length ≤ 1048576) :
    Calls Tryd.prog 24 #[.slice A os.length c] w fun e w' => e = .returned (.int .i64 (courseF os)) ∧ Below w.heap.size w w' := by
  cases ht : ticketB os
  · have HT := Lib.hid (courseF_no ht)
    go_enter Tryd.func24, Tryd.ntmps24
    go_wp2_with (go_at_call 19; refine (impl_ticketValid _ _ _ _ h hl).mono ?_; rintro e w1 ⟨rfl, b1⟩)
    go_ret
    exact ⟨ret_int HT.out.symm, b1⟩
  · have HT := Lib.hid (courseF_yes ht)
    have HF := Lib.hid (fin_of_ticket ht)
    go_enter Tryd.func24, Tryd.ntmps24
    go_wp2_with fail
    refine (impl_ticketValid _ _ _ _ h hl).mono ?_
    rintro e w1 ⟨rfl, b1⟩
    go_wp2
    go_loopw [3, 11] (fun t i wr => ∃ (k : Nat) (acc : Int), k ≤ os.length ∧ i = .int .i64 k ∧ t = .int .i64 acc ∧ acc = crs (os.take k) ∧ Below w.heap.size w wr) (fun _ i _ => os.length - (intOf i).toNat)
    case atStart => exact ⟨0, -1, Nat.zero_le _, rfl, rfl, rfl, b1⟩
    case round =>
      obtain ⟨k, acc, hk, rfl, rfl, ha, hW⟩ := hrel
      have HA := Lib.hid ha
      clear ha
      by_cases hlt : k < os.length
      · obtain ⟨b, off, rfl, hbl, hc⟩ := (h.below hW).at_ (by omega)
        obtain ⟨hck1, hck2⟩ := hc k hlt
        have HS := Lib.hid (crs_succ os k hlt acc HA)
        have hf : finB (os[k].1, os[k].2) = !decide (os[k].2 < 3) := HF.out os[k] (List.getElem_mem hlt)
        by_cases h1 : os[k].2 < 3
        · have hf2 : finB (os[k].1, os[k].2) = false := by rw [hf]; simp [h1]
          clear hf
          by_cases h2 : acc < 0
          · go_wp2_with (go_at_call 61; refine (finished_any _ _ _).mono ?_; rintro e w' ⟨rfl, rfl⟩)
            go_roundw
            case rel => exact ⟨k + 1, os[k].1, by omega, by go_num, rfl, by rw [← HS.out]; simp [crsStep, h1, h2], below_al (below_al hW _) _⟩
            case measure => simp [intOf]; omega
          · replace h2 : 0 ≤ acc := by omega
            have hd2 : decide (acc < 0) = false := by simp; omega
            by_cases h3 : os[k].1 < acc
            · go_wp2_with (go_at_call 61; refine (finished_any _ _ _).mono ?_; rintro e w' ⟨rfl, rfl⟩)
              go_roundw
              case rel => exact ⟨k + 1, os[k].1, by omega, by go_num, rfl, by rw [← HS.out]; simp [crsStep, h1, h3], below_al (below_al hW _) _⟩
              case measure => simp [intOf]; omega
            · replace h3 : acc ≤ os[k].1 := by omega
              have hd3 : decide (os[k].1 < acc) = false := by simp; omega
              go_wp2_with (go_at_call 61; refine (finished_any _ _ _).mono ?_; rintro e w' ⟨rfl, rfl⟩)
              go_roundw
              case rel => exact ⟨k + 1, acc, by omega, by go_num, rfl, by rw [← HS.out, crsStep, if_neg (by omega)], below_al (below_al hW _) _⟩
              case measure => simp [intOf]; omega
        · have hf2 : finB (os[k].1, os[k].2) = true := by rw [hf]; simp [h1]
          clear hf
          replace h1 : 3 ≤ os[k].2 := by omega
          go_wp2_with (go_at_call 61; refine (finished_any _ _ _).mono ?_; rintro e w' ⟨rfl, rfl⟩)
          go_roundw
          case rel => exact ⟨k + 1, acc, by omega, by go_num, rfl, by rw [← HS.out, crsStep, if_neg (by omega)], below_al (below_al hW _) _⟩
          case measure => simp [intOf]; omega
      · obtain rfl : k = os.length := by omega
        rw [List.take_length] at HA
        go_wp2
        go_ret
        exact ⟨ret_int (by rw [HT.out, HA.out]), hW⟩

def doneB (os : List Ord) : Bool := ticketB os && decide (courseF os < 0)
set_option maxHeartbeats 1000000 in
theorem spec_ticketDone (A : Option Addr) (c : Nat) (os : List Ord) (w : World) (h : SO w w.heap.size A os) (hl : os.length ≤ 1048576) :
    Calls Tryd.prog 45 #[.slice A os.length c] w fun e w' => e = .returned (.bool (doneB os)) ∧ Below w.heap.size w w' := by
  cases ht : ticketB os
  · have HD : Hid (doneB os = false) := by simp [Hid, doneB, ht]
    go_enter Tryd.func45, Tryd.ntmps45
    go_wp2_with (go_at_call 22; refine (spec_ticketValid _ _ _ _ h hl).mono ?_; rintro e w1 ⟨rfl, b1⟩)
    go_ret
    exact ⟨ret_bool HD.out.symm, b1⟩
  · have HD : Hid (doneB os = decide (courseF os < 0)) := by simp [Hid, doneB, ht]
    go_enter Tryd.func45, Tryd.ntmps45
    go_wp2_with fail
    refine (spec_ticketValid _ _ _ _ h hl).mono ?_
    rintro e w1 ⟨rfl, b1⟩
    have h1 := (h.below b1).more b1.size
    go_wp2_with fail
    refine (spec_ticketCourse _ _ _ _ h1 hl).mono ?_
    rintro e w2 ⟨rfl, b2⟩
    go_wp2
    go_ret
    exact ⟨ret_bool HD.out.symm, below_step b1 b2⟩
set_option maxHeartbeats 1000000 in
theorem impl_ticketDone (A : Option Addr) (c : Nat) (os : List Ord) (w : World) (h : SO w w.heap.size A os) (hl : os.length ≤ 1048576) :
    Calls Tryd.prog 20 #[.slice A os.length c] w fun e w' => e = .returned (.bool (doneB os)) ∧ Below w.heap.size w w' := by
  cases ht : ticketB os
  · have HD : Hid (doneB os = false) := by simp [Hid, doneB, ht]
    go_enter Tryd.func20, Tryd.ntmps20
    go_wp2_with (go_at_call 19; refine (impl_ticketValid _ _ _ _ h hl).mono ?_; rintro e w1 ⟨rfl, b1⟩)
    go_ret
    exact ⟨ret_bool HD.out.symm, b1⟩
  · have HD : Hid (doneB os = decide (courseF os < 0)) := by simp [Hid, doneB, ht]
    go_enter Tryd.func20, Tryd.ntmps20
    go_wp2_with fail
    refine (impl_ticketValid _ _ _ _ h hl).mono ?_
    rintro e w1 ⟨rfl, b1⟩
    have h1 := (h.below b1).more b1.size
    go_wp2_with fail
    refine (impl_ticketCourse _ _ _ _ h1 hl).mono ?_
    rintro e w2 ⟨rfl, b2⟩
    go_wp2
    go_ret
    exact ⟨ret_bool HD.out.symm, below_step b1 b2⟩
end Go.Proofs.YthbledeghanffaaDoor
