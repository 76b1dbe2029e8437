/- FnTicketDo: the draw and the walk. -/
import Derived.Test.YthbledeghanffaaDoorDrawTs
import Derived.Test.YthbledeghanffaaDoorCrsP
import Derived.Test.YthbledeghanffaaDoorTilN
import Derived.Deep.RegionHeld3
set_option linter.unusedVariables false
set_option linter.unusedSimpArgs false
namespace Go.Proofs.YthbledeghanffaaDoor
open Go.ChangeShapes Go.WideShapes Go.ChangeAt Go.RowKit

set_option maxHeartbeats 2000000 in
theorem drawDo_any (A : Option Addr) (c : Nat) (xs : List Int) (w : World) (h : RV w w.heap.size A (bts xs)) (hc : xs.length ≤ c) (hl : xs.length ≤ 1048576) (hb : ∀ x ∈ xs, 0 ≤ x ∧ x ≤ 255) :
    Calls Tryd.prog 29 #[.slice A xs.length c] w fun e w' => ∃ (v : Value) (os : List Ord) (a b : Int), e = .returned (.tuple #[v, .int .i64 a, .int .i64 b]) ∧ OO w' w.heap.size v os ∧ os.length ≤ 100 ∧ Below w.heap.size w w' := by
  have HO := Lib.hid (open_any A c xs w h hc hl hb)
  clear hb h
  go_enter Tryd.func29, Tryd.ntmps29
  go_wp2_with fail
  refine HO.out.mono ?_
  rintro e w1 ⟨g, rfl, r1, b1⟩
  have hg := r1.lt
  go_wp2_with fail
  refine (l20Ticket_any w.heap.size g 0 9 _ r1 (by omega) (by omega) (by omega)).mono ?_
  rintro e w2 ⟨v, os, rfl, o, hol, r2, c2⟩
  have hs1 := b1.size
  have o2 := OO.mono o b1.size
  have b2 := Below.chg b1 c2 hg.1
  obtain ⟨At, ct, rfl, -⟩ := own_form o
  go_wp2_with fail
  refine (pick_any w.heap.size g _ ((os.length : Int) + 1) _ r2 (by omega) (by omega) (by omega)).mono ?_
  rintro e w3 ⟨a1, rfl, ⟨ha1, ha2⟩, r3, c3⟩
  have o3 : OO w3 w1.heap.size (.slice At os.length ct) os := own_chg o c3 hg.2
  go_wp2_with fail
  refine (pick_any w.heap.size g _ 20 _ r3 (by omega) (by omega) (by omega)).mono ?_
  rintro e w4 ⟨q1, rfl, ⟨hq1, hq2⟩, r4, c4⟩
  obtain ⟨d1, hd1, hd10, hd11⟩ : ∃ d : Int, q1.tdiv 19 = d ∧ 0 ≤ d ∧ d ≤ 1 := ⟨_, rfl, by rw [Int.tdiv_eq_ediv_of_nonneg hq1]; omega, by rw [Int.tdiv_eq_ediv_of_nonneg hq1]; omega⟩
  go_wp2_with fail
  refine (pick_any w.heap.size g _ 4 _ r4 (by omega) (by omega) (by omega)).mono ?_
  rintro e w5 ⟨p, rfl, ⟨hp1, hp2⟩, r5, c5⟩
  go_wp2_with fail
  refine (pick_any w.heap.size g _ 20 _ r5 (by omega) (by omega) (by omega)).mono ?_
  rintro e w6 ⟨q2, rfl, ⟨hq3, hq4⟩, r6, c6⟩
  obtain ⟨d2, hd2, hd20, hd21⟩ : ∃ d : Int, q2.tdiv 19 = d ∧ 0 ≤ d ∧ d ≤ 1 := ⟨_, rfl, by rw [Int.tdiv_eq_ediv_of_nonneg hq3]; omega, by rw [Int.tdiv_eq_ediv_of_nonneg hq3]; omega⟩
  go_wp2
  go_ret3
  exact ⟨_, os, _, _, rfl, OO.mono (own_chg (own_chg (own_chg o3 c4 hg.2) c5 hg.2) c6 hg.2) hs1, hol, Below.chg (Below.chg (Below.chg (Below.chg b2 c3 hg.1) c4 hg.1) c5 hg.1) c6 hg.1⟩
theorem sameTicket_len (A A' : Option Addr) (n n' c c' : Nat) (w : World) (hn : n ≠ n') (h1 : n ≤ 1048576) (h2 : n' ≤ 1048576) :
    Calls Tryd.prog 16 #[.slice A n c, .slice A' n' c'] w fun e w' => e = .returned (.bool false) ∧ Below w.heap.size w w' := by
  have hz : ((n : Int) == (n' : Int)) = false := by rw [beq_eq_false_iff_ne]; omega
  go_enter Tryd.func16, Tryd.ntmps16
  go_wp2
  go_ret
  exact ⟨rfl, Below.refl _ _⟩
set_option maxRecDepth 20000 in
set_option maxHeartbeats 8000000 in
theorem walk_fnTicketDo (w : World) (A : Option Addr) (c : Nat) (xs : List Int) (h : RV w w.heap.size A (bts xs)) (hc : xs.length ≤ c) (hm : c ≤ maxLen) (hb : ∀ x ∈ xs, 0 ≤ x ∧ x ≤ 255) :
    Calls Tryd.prog 7 #[.slice A xs.length c] w fun e w' => e = .returned (.bool true) ∧ Below w.heap.size w w' := by
  unfold maxLen at hm
  by_cases hl : xs.length ≤ 1048576
  · have HD := Lib.hid (drawDo_any A c xs w h hc hl hb)
    clear hb h
    have hd8 : decide ((1048576 : Int) < (xs.length : Int)) = false := decide_eq_false (by omega)
    go_enter Tryd.func7, Tryd.ntmps7
    go_wp2_with fail
    refine HD.out.mono ?_
    rintro e w1 ⟨v, os, ix, ev, rfl, o, hol, bel⟩
    obtain ⟨A1, c1, rfl, hr1, -⟩ := own_form o
    clear o HD
    have hdl := doF_len os ix ev (by omega)
    go_wp2_with fail
    refine (impl_ticketDo A1 c1 os ix ev _ hr1 (by omega)).mono ?_
    rintro e w2 ⟨v, rfl, o, b2⟩
    have hr1 := RV.step hr1 b2
    obtain ⟨A2, c2, rfl, hr2, -⟩ := own_form o
    clear o
    replace bel := below_step bel b2
    go_wp2_with fail
    refine (spec_ticketDo A1 c1 os ix ev _ hr1 (by omega)).mono ?_
    rintro e w3 ⟨v, rfl, o, b3⟩
    have hr1 := RV.step hr1 b3
    have hr2 := RV.step hr2 b3
    obtain ⟨A3, c3, rfl, hr3, -⟩ := own_form o
    clear o
    replace bel := below_step bel b3
    go_wp2_with fail
    refine (sameTicket_e A2 A3 c2 c3 _ _ hr2 hr3 hdl).mono ?_
    rintro e w4 ⟨rfl, b4⟩
    have hr1 := RV.step hr1 b4
    have hr2 := RV.step hr2 b4
    clear hr3
    replace bel := below_step bel b4
    rcases do_cases os ix ev with ⟨h2, h1⟩ | ⟨n, hn, s, rfl, he, ht, hts, hlt0, hl3⟩
    · rw [h2]
      by_cases h1' : (doF os ix ev).1 = os
      · rw [h1'] at hr2 ⊢
        clear h1
        go_wp2_with fail
        refine (sameTicket_e A2 A1 c2 c1 _ _ hr2 hr1 (by omega)).mono ?_
        rintro e w5 ⟨rfl, b5⟩
        replace bel := below_step bel b5
        go_wp2_with fail
        refine (alive_any _).mono ?_
        rintro e w6 ⟨rfl, b6⟩
        go_wp2
        go_ret
        exact ⟨rfl, below_step bel b6⟩
      · have hv : ticketB os = false := by rcases h1 with h1 | h1; exact absurd h1 h1'; exact h1
        have e0 : (doF os ix ev).1 = [] := by rw [doF_1 _ _ hv]
        have HV := Lib.hid hv
        have hne : ([] : List Ord).length ≠ os.length := by
          intro e
          have := List.eq_nil_of_length_eq_zero e.symm
          subst this
          exact absurd hv (by decide)
        rw [e0] at hr2 ⊢
        clear h1 hv h1'
        go_wp2_with fail
        refine (sameTicket_len A2 A1 _ _ c2 c1 _ hne (by simp) (by omega)).mono ?_
        rintro e w5 ⟨rfl, b5⟩
        have hr1 := RV.step hr1 b5
        replace bel := below_step bel b5
        go_wp2_with fail
        have hx := impl_ticketValid A1 c1 os _ hr1 (by omega)
        rw [HV.out] at hx
        refine hx.mono ?_
        rintro e w6 ⟨rfl, b6⟩
        replace bel := below_step bel b6
        go_wp2_with fail
        refine (alive_any _).mono ?_
        rintro e w7 ⟨rfl, b7⟩
        go_wp2
        go_ret
        exact ⟨rfl, below_step bel b7⟩
    · rw [he] at hr2 ⊢
      have HTB := Lib.hid (fun k j hk hj h1 h2 h3 => ticket_before hts k j hk hj h1 h2 h3)
      have HTS := Lib.hid hts
      have hyl : (os.set n (os[n].1, s)).length = os.length := by simp
      have HEQ : Hid (∀ k (hk : k < os.length) (hk2 : k < (os.set n (os[n].1, s)).length), k ≠ n → (os.set n (os[n].1, s))[k] = os[k]) := by
        intro k hk hk2 hkn
        rw [List.getElem_set_ne (fun e => hkn e.symm)]
      have HEN : Hid (∀ (hk2 : n < (os.set n (os[n].1, s)).length), (os.set n (os[n].1, s))[n] = (os[n].1, s)) := by
        intro hk2
        rw [List.getElem_set_self]
      have hos : os.length ≤ 6 := by
        unfold ticketB at ht
        rw [Bool.and_eq_true, decide_eq_true_eq] at ht
        exact ht.2
      clear he hts ht hdl
      generalize (os.set n (os[n].1, s)) = ys at *
      dsimp only
      go_wp2
      go_loopw [10] (fun i wr => ∃ k : Nat, k ≤ os.length ∧ i = .int .i64 k ∧ Below w4.heap.size w4 wr) (fun i _ => os.length - (intOf i).toNat)
      case atStart => exact ⟨0, Nat.zero_le _, rfl, Below.refl _ _⟩
      case round =>
        obtain ⟨k, hk, rfl, hW⟩ := hrel
        by_cases hlt : k < os.length
        · obtain ⟨b, off, rfl, hbl, hcc⟩ := SO.at_ (RV.step hr2 hW) (by omega)
          obtain ⟨b', off', rfl, hbl', hcc'⟩ := SO.at_ (RV.step hr1 hW) (by omega)
          obtain ⟨e1, e2⟩ := hcc k (by omega)
          obtain ⟨e3, e4⟩ := hcc' k hlt
          have hky : k < ys.length := by omega
          have HB : Hid (∀ j (hj : j < ys.length), 1 ≤ (ys[k]'hky).2 → (ys[k]'hky).2 ≤ 3 → ys[j].1 < (ys[k]'hky).1 → 3 ≤ ys[j].2) := Lib.hid (fun j hj h1 h2 h3 => HTB.out k j (by omega) hj h1 h2 h3)
          have hne : k ≠ n → (ys[k]'hky) = os[k] := HEQ.out k hlt (by omega)
          have hs := hW.size
          have HC := Lib.hid hcc
          clear hcc hcc'
          generalize (ys[k]'hky) = y at *
          generalize os[k] = o at *
          obtain ⟨p, q⟩ := y
          obtain ⟨p', q'⟩ := o
          dsimp only at e1 e2 e3 e4 HB
          have hcase : (k = n) ∨ (k ≠ n ∧ p = p' ∧ q = q') := by
            by_cases h : k = n
            · exact .inl h
            · have := hne h
              injection this with h1 h2
              exact .inr ⟨h, h1, h2⟩
          clear hne
          rcases hcase with rfl | ⟨hkn, rfl, rfl⟩
          · have hz : ((k : Int) == (k : Int)) = true := by simp
            rcases (show (1 ≤ q ∧ q ≤ 3) ∨ q < 1 ∨ (1 ≤ q ∧ 3 < q) by omega) with ⟨hq1, hq2⟩ | hq1 | ⟨hq1, hq2⟩
            · have d5 : decide (1 ≤ q) = true := decide_eq_true (by omega)
              have d6 : decide (0 < q) = true := decide_eq_true (by omega)
              have d7 : decide (q ≤ 3) = true := decide_eq_true (by omega)
              go_wp2_with fail
              go_quiet (fail)
              go_wp2
              go_loopw [11] (fun i wx => ∃ j nq : Nat, j ≤ os.length ∧ i = .int .i64 j ∧ wx = wr.drewN nq) (fun i _ => os.length - (intOf i).toNat)
              case atStart => exact ⟨0, _, Nat.zero_le _, rfl, by first | rfl | exact World.drewN_drewN _ _ _⟩
              case round =>
                obtain ⟨j, nq, hj, rfl, rfl⟩ := hrel
                by_cases hlt2 : j < os.length
                · obtain ⟨f1, f2⟩ := HC.out j (by omega)
                  have hb3 := HB.out j (by omega) hq1 hq2
                  have hjy : j < ys.length := by omega
                  generalize (ys[j]'hjy) = z at *
                  obtain ⟨z1, z2⟩ := z
                  dsimp only at f1 f2 hb3
                  by_cases hz1 : z1 < p
                  · have g1 : decide (z1 < p) = true := decide_eq_true hz1
                    have g2 : decide (z2 < 3) = false := decide_eq_false (by have := hb3 hz1; omega)
                    clear hb3
                    go_wp2_with fail
                    go_quiet (fail)
                    go_wp2
                    go_roundw
                    case rel => exact ⟨j + 1, _, by omega, by go_num, by first | rfl | exact World.drewN_drewN _ _ _⟩
                    case measure => (simp [intOf]) <;> omega
                  · have g1 : decide (z1 < p) = false := decide_eq_false hz1
                    clear hb3
                    go_wp2_with fail
                    go_quiet (fail)
                    go_wp2
                    go_roundw
                    case rel => exact ⟨j + 1, _, by omega, by go_num, by first | rfl | exact World.drewN_drewN _ _ _⟩
                    case measure => (simp [intOf]) <;> omega
                · obtain rfl : j = os.length := by omega
                  go_wp2
                  go_roundw
                  case rel => exact ⟨k + 1, by omega, by go_num, below_drewN hW _⟩
                  case measure => (simp [intOf]) <;> omega
            · have d5 : decide (1 ≤ q) = false := decide_eq_false (by omega)
              have d6 : decide (0 < q) = false := decide_eq_false (by omega)
              go_wp2_with fail
              go_quiet (fail)
              go_wp2
              go_roundw
              case rel => exact ⟨k + 1, by omega, by go_num, below_drewN hW _⟩
              case measure => (simp [intOf]) <;> omega
            · have d5 : decide (1 ≤ q) = true := decide_eq_true (by omega)
              have d6 : decide (0 < q) = true := decide_eq_true (by omega)
              have d7 : decide (q ≤ 3) = false := decide_eq_false (by omega)
              go_wp2_with fail
              go_quiet (fail)
              go_wp2
              go_roundw
              case rel => exact ⟨k + 1, by omega, by go_num, below_drewN hW _⟩
              case measure => (simp [intOf]) <;> omega
          · have hz : ((k : Int) == (n : Int)) = false := by rw [beq_eq_false_iff_ne]; omega
            have hzb : ((k : Int) != (n : Int)) = true := by rw [bne, hz]; rfl
            have hzn : (k == n) = false := by rw [beq_eq_false_iff_ne]; exact hkn
            have hzd : decide (k = n) = false := decide_eq_false hkn
            have hzz : decide ((k : Int) = (n : Int)) = false := decide_eq_false (by omega)
            rcases (show (1 ≤ q ∧ q ≤ 3) ∨ q < 1 ∨ (1 ≤ q ∧ 3 < q) by omega) with ⟨hq1, hq2⟩ | hq1 | ⟨hq1, hq2⟩
            · have d5 : decide (1 ≤ q) = true := decide_eq_true (by omega)
              have d6 : decide (0 < q) = true := decide_eq_true (by omega)
              have d7 : decide (q ≤ 3) = true := decide_eq_true (by omega)
              go_wp2_with fail
              go_quiet (fail)
              go_wp2
              go_loopw [11] (fun i wx => ∃ j nq : Nat, j ≤ os.length ∧ i = .int .i64 j ∧ wx = wr.drewN nq) (fun i _ => os.length - (intOf i).toNat)
              case atStart => exact ⟨0, _, Nat.zero_le _, rfl, by first | rfl | exact World.drewN_drewN _ _ _⟩
              case round =>
                obtain ⟨j, nq, hj, rfl, rfl⟩ := hrel
                by_cases hlt2 : j < os.length
                · obtain ⟨f1, f2⟩ := HC.out j (by omega)
                  have hb3 := HB.out j (by omega) hq1 hq2
                  have hjy : j < ys.length := by omega
                  generalize (ys[j]'hjy) = z at *
                  obtain ⟨z1, z2⟩ := z
                  dsimp only at f1 f2 hb3
                  by_cases hz1 : z1 < p
                  · have g1 : decide (z1 < p) = true := decide_eq_true hz1
                    have g2 : decide (z2 < 3) = false := decide_eq_false (by have := hb3 hz1; omega)
                    clear hb3
                    go_wp2_with fail
                    go_quiet (fail)
                    go_wp2
                    go_roundw
                    case rel => exact ⟨j + 1, _, by omega, by go_num, by first | rfl | exact World.drewN_drewN _ _ _⟩
                    case measure => (simp [intOf]) <;> omega
                  · have g1 : decide (z1 < p) = false := decide_eq_false hz1
                    clear hb3
                    go_wp2_with fail
                    go_quiet (fail)
                    go_wp2
                    go_roundw
                    case rel => exact ⟨j + 1, _, by omega, by go_num, by first | rfl | exact World.drewN_drewN _ _ _⟩
                    case measure => (simp [intOf]) <;> omega
                · obtain rfl : j = os.length := by omega
                  go_wp2
                  go_roundw
                  case rel => exact ⟨k + 1, by omega, by go_num, below_drewN hW _⟩
                  case measure => (simp [intOf]) <;> omega
            · have d5 : decide (1 ≤ q) = false := decide_eq_false (by omega)
              have d6 : decide (0 < q) = false := decide_eq_false (by omega)
              go_wp2_with fail
              go_quiet (fail)
              go_wp2
              go_roundw
              case rel => exact ⟨k + 1, by omega, by go_num, below_drewN hW _⟩
              case measure => (simp [intOf]) <;> omega
            · have d5 : decide (1 ≤ q) = true := decide_eq_true (by omega)
              have d6 : decide (0 < q) = true := decide_eq_true (by omega)
              have d7 : decide (q ≤ 3) = false := decide_eq_false (by omega)
              go_wp2_with fail
              go_quiet (fail)
              go_wp2
              go_roundw
              case rel => exact ⟨k + 1, by omega, by go_num, below_drewN hW _⟩
              case measure => (simp [intOf]) <;> omega
        · obtain rfl : k = os.length := by omega
          have hr1' := RV.step hr1 hW
          have hr2' := RV.step hr2 hW
          replace bel := below_step bel hW
          clear hr1 hr2
          obtain ⟨b, off, rfl, hbl, hcc⟩ := SO.at_ hr2' (by omega)
          obtain ⟨b', off', rfl, hbl', hcc'⟩ := SO.at_ hr1' (by omega)
          obtain ⟨e1, e2⟩ := hcc n (by omega)
          obtain ⟨e3, e4⟩ := hcc' n hn
          rw [HEN.out (by omega)] at e1 e2
          have HR2 := Lib.hid hr2'
          clear hcc hcc' hr1' hr2'
          have hd1 : decide (os[n].2 < s) = true := decide_eq_true hlt0
          have hd2 : decide (os[n].2 < 3) = true := decide_eq_true hl3
          generalize os[n] = o at *
          obtain ⟨p', q'⟩ := o
          dsimp only at e1 e2 e3 e4 hd1 hd2
          have hx := impl_ticketValid (some ⟨b, off, none⟩) c2 ys wr.drew (show SO wr.drew wr.drew.heap.size _ ys from HR2.out) (by omega)
          rw [HTS.out, hyl] at hx
          have HX := Lib.hid hx
          have HBEL := Lib.hid bel
          clear hx bel
          go_wp2_with fail
          go_region_held3 (fun w' => w'.cell? ⟨b, off + n * 2, none⟩ = some (.int .i64 p') ∧ w'.cell? ⟨b, off + n * 2 + 1, none⟩ = some (.int .i64 s) ∧ w'.cell? ⟨b', off' + n * 2, none⟩ = some (.int .i64 p') ∧ w'.cell? ⟨b', off' + n * 2 + 1, none⟩ = some (.int .i64 q') ∧ Below w.heap.size w w')
            (first | exact ⟨e1, e2, e3, e4, HBEL.out⟩ | exact ⟨e1, e2, e3, e4, HBEL.out.drew⟩ | exact ⟨k1, k2, k3, k4, BEL6.out⟩ | go_keep)
            (first | (go_at_call 19; refine HX.out.mono ?_; rintro e w6 ⟨rfl, b6⟩; have k1 : w6.cell? ⟨b, off + n * 2, none⟩ = some (.int .i64 p') := (b6.cell (p := ⟨b, off + n * 2, none⟩) hbl).trans e1; have k2 : w6.cell? ⟨b, off + n * 2 + 1, none⟩ = some (.int .i64 s) := (b6.cell (p := ⟨b, off + n * 2 + 1, none⟩) hbl).trans e2; have k3 : w6.cell? ⟨b', off' + n * 2, none⟩ = some (.int .i64 p') := (b6.cell (p := ⟨b', off' + n * 2, none⟩) hbl').trans e3; have k4 : w6.cell? ⟨b', off' + n * 2 + 1, none⟩ = some (.int .i64 q') := (b6.cell (p := ⟨b', off' + n * 2 + 1, none⟩) hbl').trans e4; have BEL6 := Lib.hid (below_step HBEL.out.drew b6)))
          all_goals go_wp2
          all_goals go_ret
          all_goals (refine ⟨rfl, ?_⟩; first | assumption | exact HBEL.out)
  · go_enter Tryd.func7, Tryd.ntmps7
    go_wp2
    go_ret
    exact ⟨rfl, Below.refl _ _⟩
end Go.Proofs.YthbledeghanffaaDoor
