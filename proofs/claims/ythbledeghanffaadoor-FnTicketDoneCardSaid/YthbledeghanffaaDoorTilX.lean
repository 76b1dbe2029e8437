/- FnTicketDone: the law's walk. -/
import Derived.Test.YthbledeghanffaaDoorDrawKs
import Derived.Test.YthbledeghanffaaDoorDrawTs
import Derived.Test.YthbledeghanffaaDoorStepP
import Derived.Test.YthbledeghanffaaDoorTilL
set_option linter.unusedVariables false
set_option linter.unusedSimpArgs false
namespace Go.Proofs.YthbledeghanffaaDoor
open Go.ChangeShapes Go.WideShapes Go.ChangeAt Go.RowKit

theorem OK.at0_ {w : World} {lo : Nat} {A : Option Addr} {c : Nat} {os : List Ord} (h : OK w lo (.slice A 1 c) (rowsOf [os])) : ∃ g Aj cj, A = some ⟨g, 0, none⟩ ∧ w.cell? ⟨g, 0, none⟩ = some (.slice Aj os.length cj) ∧ OO w lo (.slice Aj os.length cj) os := by
  obtain ⟨g, rfl, -⟩ := OK.head h (by simp [rowsOf])
  obtain ⟨vs, h1, h2⟩ := h
  have hv : vs.length = 1 := by rw [h2.len]; rfl
  obtain ⟨Aj, cj, e, ho⟩ := h2.at_ 0 (by simp [rowsOf]) (by omega)
  refine ⟨g, Aj, cj, rfl, ?_, ho⟩
  rw [h1.cellAt 0 (by omega), List.getElem?_eq_getElem (by omega), e]
  rfl
theorem run_oneM {os : List Ord} (h : ticketB os = true) (m : Nat) (hm : m ≤ 99) : ∃ x : List Ord, (runF [os] (m : Int)).1 = [x] ∧ x.length = os.length := by
  have hk : kitB [os] = true := by simp [kitB, h]
  have e := run_law hk hm
  rw [e]
  have hT := it_taken m hk
  generalize itK m [os] = y at *
  obtain ⟨hl, ht⟩ := hT
  obtain ⟨x, rfl⟩ := List.length_eq_one_iff.1 (show y.length = 1 from hl)
  obtain ⟨h2, -⟩ := ht 0 (by simp)
  exact ⟨x, rfl, h2⟩
set_option maxRecDepth 20000 in
set_option maxHeartbeats 4000000 in
theorem drawDone_any (A : Option Addr) (c : Nat) (xs : List Int) (w : World) (h : RV w w.heap.size A (bts xs)) (hc : xs.length ≤ c) (hl : xs.length ≤ 1048576) (hb : ∀ x ∈ xs, 0 ≤ x ∧ x ≤ 255) :
    Calls Tryd.prog 44 #[.slice A xs.length c] w (DrawTP w) := by
  have HO := Lib.hid (open_any A c xs w h hc hl hb)
  clear hb h
  go_enter Tryd.func44, Tryd.ntmps44
  go_wp2_with fail
  refine HO.out.mono ?_
  rintro e w1 ⟨g, rfl, r1, b1⟩
  have hg := r1.lt
  go_wp2_with fail
  refine (l20Ticket_any w.heap.size g 0 9 _ r1 (by omega) (by omega) (by omega)).mono ?_
  rintro e w2 ⟨v, os, rfl, o, hol, r2, c2⟩
  have b2 := Below.chg b1 c2 hg.1
  have hs1 := b1.size
  go_wp2_with fail
  refine (pick_any w.heap.size g _ 3 _ r2 (by omega) (by omega) (by omega)).mono ?_
  rintro e w3 ⟨a1, rfl, ⟨ha1, ha2⟩, r3, c3⟩
  have o3 : OO w3 w1.heap.size v os := own_chg o c3 hg.2
  have b3 := Below.chg b2 c3 hg.1
  have O3 := Lib.hid (OO.mono o3 hs1)
  obtain ⟨A3, c3', rfl, hr3, hcj, hcm, -⟩ := OO.form O3.out
  clear o o3
  by_cases h0 : a1 = 0
  · subst h0
    go_wp2_with fail
    refine (spec_ticketValid A3 c3' os _ hr3 (by omega)).mono ?_
    rintro e w4 ⟨rfl, b4⟩
    have O4 := Lib.hid (OO.below O3.out b4)
    have hr4 : SO w4 w4.heap.size A3 os := RV.step hr3 b4
    replace b4 := below_step b3 b4
    cases ht : ticketB os
    · go_wp2
      go_ret
      exact ⟨_, os, rfl, O4.out, hol, b4⟩
    · obtain ⟨x, hx, hxl⟩ := run_oneM ht 99 (by omega)
      have HX : Hid ((runF [os] (99 : Int)).1 = [x]) := Lib.hid hx
      clear ht hx
      go_wp2_with fail
      have hB := Blk.new w4 25 #[.slice A3 os.length c3']
      have hr5 := sk_one hB (B := w4.heap.size + 1) (by omega) ((SO.below hr4 (below_al (Below.refl _ _) _)).more (by omega)) hcj hcm
      have hr6 : SK (w4.alloc (.cells #[.slice A3 os.length c3'] 25)) (w4.alloc (.cells #[.slice A3 os.length c3'] 25)).heap.size (some ⟨w4.heap.size, 0, none⟩) [os] := hr5.more (by simp)
      refine (spec_workRun (some ⟨w4.heap.size, 0, none⟩) 1 [os] 99 _ hr6 (by simp [total]; omega)).mono ?_
      rintro e w5 ⟨v5, rfl, o5, b5⟩
      rw [HX.out] at o5
      obtain ⟨A5, c5, rfl, -⟩ := OK.form o5
      have b6 := below_step (below_al b4 _) b5
      have hs6 : w.heap.size ≤ (w4.alloc (.cells #[.slice A3 os.length c3'] 25)).heap.size := by have := b4.size; simp; omega
      obtain ⟨g6, A6, c6, rfl, hc6, o6⟩ := OK.at0_ o5
      have O6 := Lib.hid (OO.mono o6 hs6)
      have hgs := World.block_lt_of_cell? _ _ hc6
      rw [hxl] at O6 hc6
      clear o5 o6 hB hr5 hr6
      go_wp2
      go_ret
      exact ⟨_, x, rfl, O6.out, by omega, b6⟩
  · have hz : (a1 == 0) = false := by rw [beq_eq_false_iff_ne]; exact h0
    go_wp2
    go_ret
    exact ⟨_, os, rfl, O3.out, hol, b3⟩
theorem done_not {os : List Ord} (h : doneB os = true) (k : Nat) (hk : k < os.length) (ev : Int) : (doF os (k : Int) ev).2 = false := by
  have ht : ticketB os = true := by
    simp only [doneB, Bool.and_eq_true] at h; exact h.1
  have h3 := (done_iff ht).1 h _ (List.getElem_mem hk)
  have hn : nextF os[k].2 ev < 0 := by
    unfold nextF
    split
    · omega
    · split
      · omega
      · split
        · omega
        · split
          · omega
          · omega
  rw [doF_3 ht hk hn]
set_option maxRecDepth 20000 in
set_option maxHeartbeats 8000000 in
theorem walk_fnTicketDone (w : World) (A : Option Addr) (c : Nat) (xs : List Int) (h : RV w w.heap.size A (bts xs)) (hc : xs.length ≤ c) (hm : c ≤ maxLen) (hb : ∀ x ∈ xs, 0 ≤ x ∧ x ≤ 255) :
    Calls Tryd.prog 11 #[.slice A xs.length c] w fun e w' => e = .returned (.bool true) ∧ Below w.heap.size w w' := by
  unfold maxLen at hm
  by_cases hl : xs.length ≤ 1048576
  · have HD := Lib.hid (drawDone_any A c xs w h hc hl hb)
    clear hb h
    have hd8 : decide ((1048576 : Int) < (xs.length : Int)) = false := decide_eq_false (by omega)
    go_enter Tryd.func11, Tryd.ntmps11
    go_wp2_with fail
    refine HD.out.mono ?_
    rintro e w1 ⟨v, os, rfl, o, hol, bel⟩
    obtain ⟨A1, c1, rfl, hr1, -⟩ := own_form o
    clear o HD
    go_wp2_with fail
    refine (impl_ticketDone A1 c1 os _ hr1 (by omega)).mono ?_
    rintro e w2 ⟨rfl, b2⟩
    have hr1 := RV.step hr1 b2
    replace bel := below_step bel b2
    go_wp2_with fail
    refine (spec_ticketDone A1 c1 os _ hr1 (by omega)).mono ?_
    rintro e w3 ⟨rfl, b3⟩
    have hr1 := RV.step hr1 b3
    replace bel := below_step bel b3
    have hbb : (doneB os == doneB os) = true := by simp
    have HND := Lib.hid (fun (h : doneB os = true) k hk ev => done_not h k hk ev)
    generalize doneB os = dn at *
    go_wp2
    go_loopw [5] (fun i wr => ∃ k : Nat, k ≤ os.length ∧ i = .int .i64 k ∧ Below w3.heap.size w3 wr) (fun i _ => os.length - (intOf i).toNat)
    case atStart => exact ⟨0, Nat.zero_le _, rfl, Below.refl _ _⟩
    case round =>
      obtain ⟨k, hk, rfl, hW⟩ := hrel
      by_cases hlt : k < os.length ∧ dn = true
      · obtain ⟨hlt, rfl⟩ := hlt
        have HN := Lib.hid (HND.out rfl k hlt)
        obtain ⟨wo, rfl⟩ : ∃ wo : World, wo = wr := ⟨_, rfl⟩
        go_wp2
        go_loopw [6] (fun i wr => ∃ j : Nat, j ≤ 4 ∧ i = .int .i64 j ∧ Below w3.heap.size w3 wr) (fun i _ => 4 - (intOf i).toNat)
        case atStart => exact ⟨0, by omega, rfl, hW⟩
        case round =>
          clear hW
          obtain ⟨j, hj, rfl, hW⟩ := hrel
          by_cases hlt2 : j ≤ 3
          · have hdj : decide ((j : Int) ≤ 3) = true := decide_eq_true (by omega)
            go_wp2_with fail
            have hx := impl_ticketDo A1 c1 os (k : Int) (j : Int) _ (RV.step hr1 hW) (by omega)
            refine hx.mono ?_
            rintro e w4 ⟨v, rfl, o4, b4⟩
            rw [HN.out]
            clear o4
            go_wp2
            go_roundw
            case rel => exact ⟨j + 1, by omega, by go_num, below_step hW b4⟩
            case measure => simp [intOf]; omega
          · have hdj : decide ((j : Int) ≤ 3) = false := decide_eq_false (by omega)
            go_wp2
            go_roundw
            case rel => exact ⟨k + 1, by omega, by go_num, hW⟩
            case measure => simp [intOf]; omega
      · have hex : k = os.length ∨ (k < os.length ∧ dn = false) := by
          rcases Nat.lt_or_ge k os.length with h1 | h1
          · right; refine ⟨h1, ?_⟩
            cases dn
            · rfl
            · exact absurd ⟨h1, rfl⟩ hlt
          · left; omega
        clear hlt
        replace bel := below_step bel hW
        have h0 : doneB [] = true := rfl
        rcases hex with rfl | ⟨h1, rfl⟩
        · have hd : decide ((os.length : Int) < (os.length : Int)) = false := decide_eq_false (by omega)
          go_wp2_with fail
          refine (impl_ticketDone none 0 [] _ (RV.nil _ _ _) (by simp)).mono ?_
          rintro e w4 ⟨rfl, b4⟩
          rw [h0]
          go_wp2_with fail
          refine (alive_any _).mono ?_
          rintro e w5 ⟨rfl, b5⟩
          go_wp2
          go_ret
          exact ⟨rfl, below_step (below_step bel b4) b5⟩
        · go_wp2_with fail
          refine (impl_ticketDone none 0 [] _ (RV.nil _ _ _) (by simp)).mono ?_
          rintro e w4 ⟨rfl, b4⟩
          rw [h0]
          go_wp2_with fail
          refine (alive_any _).mono ?_
          rintro e w5 ⟨rfl, b5⟩
          go_wp2
          go_ret
          exact ⟨rfl, below_step (below_step bel b4) b5⟩
  · go_enter Tryd.func11, Tryd.ntmps11
    go_wp2
    go_ret
    exact ⟨rfl, Below.refl _ _⟩
end Go.Proofs.YthbledeghanffaaDoor
