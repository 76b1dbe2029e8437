/- TasksValid: what the program and the reference compute. -/
import Derived.Test.YtgndokhehooplaaTask2
import Derived.Test.YtgndokhehooplaaTaskP
import Derived.BigGuardPart
set_option linter.unusedVariables false
set_option linter.unusedSimpArgs false
namespace Go.Proofs.Ytgndokhehooplaa
open Go.ChangeShapes Go.WideShapes Go.ChangeAt Go.RowKit

theorem ST.atT {w : World} {B : Nat} {A : Option Addr} {ts : List Tsk} (h : ST w B A ts) (hp : 0 < ts.length) : ∃ b off, A = some ⟨b, off, none⟩ ∧ b < B ∧
    ∀ j, j < ts.length → w.cell? ⟨b, off + j * 2, none⟩ = some (.int .i64 (tat ts j).1) ∧ ∃ Aj cj, w.cell? ⟨b, off + j * 2 + 1, none⟩ = some (.slice Aj (tat ts j).2.length cj) ∧ IS w B Aj (tat ts j).2 := by
  obtain ⟨b, off, e, hb, hc⟩ := h hp
  refine ⟨b, off, e, hb, fun j hj => ?_⟩
  obtain ⟨h0, Aj, cj, h1, h2, _⟩ := hc j hj
  rw [tat_eq hj] at h0 h1 h2
  exact ⟨h0, Aj, cj, h1, h2⟩
theorem afP_zero (i : Nat) (xs : List Int) : afP i xs 0 = inB (at0 xs 0) 0 ((i : Int) - 1) := by
  have e : afP i xs 0 = (decide ((-1 : Int) < at0 xs 0) && decide (at0 xs 0 < (i : Int))) := rfl
  rw [Bool.eq_iff_iff, inB_true, e, Bool.and_eq_true, decide_eq_true_eq, decide_eq_true_eq]; omega
theorem afP_succ {i : Nat} {xs : List Int} {j : Nat} (h : afUpTo i xs (j + 1) = true) : afP i xs (j + 1) = (inB (at0 xs (j + 1)) 0 ((i : Int) - 1) && decide (at0 xs j < at0 xs (j + 1))) := by
  have := af_range h (j := j) (by omega)
  have e : afP i xs (j + 1) = (decide (at0 xs j < at0 xs (j + 1)) && decide (at0 xs (j + 1) < (i : Int))) := rfl
  rw [Bool.eq_iff_iff, e, Bool.and_eq_true, Bool.and_eq_true, inB_true, decide_eq_true_eq, decide_eq_true_eq]; omega
theorem quiet_add_left3 {P : Program} {f : FuncId} {args : Array Value} {w : World} {a n : Nat} {v : Value}
    (h : Calls P f args (w.drewN (a + n)) fun e w' => e = .returned v ∧ w.drewN (a + n) = w') :
    Calls P f args (w.drewN (a + n)) fun e w'' => e = .returned v ∧ ∃ m, w'' = w.drewN (a + m) :=
  h.mono fun _ _ ⟨he, hm⟩ => ⟨he, n, hm.symm⟩
theorem quiet_left3 {P : Program} {f : FuncId} {args : Array Value} {w : World} {n : Nat} {v : Value}
    (h : Calls P f args (w.drewN n) fun e w' => e = .returned v ∧ w.drewN n = w') : Calls P f args (w.drewN n) fun e w'' => e = .returned v ∧ ∃ m, w'' = w.drewN m :=
  h.mono fun _ _ ⟨he, hm⟩ => ⟨he, n, hm.symm⟩
set_option maxHeartbeats 8000000 in
theorem spec_tasksValid (A : Option Addr) (c : Nat) (ts : List Tsk) (w : World) (B : Nat) (h : ST w B A ts) (hl : ts.length + totT ts ≤ 1048576) :
    Calls Try.prog 71 #[.slice A ts.length c] w fun e w' => e = .returned (.bool (tasksB ts)) ∧ ∃ q, w' = w.drewN q := by
  go_enter Try.func71, Try.ntmps71
  go_wp2
  go_loopw [3] (fun i wr => ∃ k : Nat, k ≤ ts.length ∧ i = .int .i64 k ∧ tUpTo ts k = true ∧ ∃ q, wr = w.drewN q) (fun i _ => ts.length - (intOf i).toNat)
  case atStart => exact ⟨0, Nat.zero_le _, rfl, by simp [tUpTo], 0, rfl⟩
  case round =>
    obtain ⟨k, hk, rfl, ha, q0, rfl⟩ := hrel
    have HA := Lib.hid ha
    clear ha
    by_cases hlt : k < ts.length
    · obtain ⟨b, off, rfl, hbl, hc⟩ := h.atT (by omega)
      obtain ⟨hck0, Aj, cj, hck1, hso⟩ := hc k hlt
      have hlj := len_le_totT ts k hlt
      rw [tat_eq hlt] at hlj
      have HK : Hid (tOk k (tat ts k) = (inB (tat ts k).1 0 30 && afUpTo k (tat ts k).2 (tat ts k).2.length)) := Lib.hid rfl
      have HBAD := Lib.hid (fun hh : tOk k (tat ts k) = false => tasks_bad hlt hh)
      have HS := Lib.hid (tUpTo_succ ts k)
      clear hc
      generalize hsp : (tat ts k).1 = sp at *
      generalize hxs : (tat ts k).2 = xs at *
      have HX := Lib.hid hxs
      clear hsp hxs
      go_wp2
      go_loopw [4] (fun i wr => ∃ j : Nat, j ≤ xs.length ∧ i = .int .i64 j ∧ Hid (afUpTo k xs j = true) ∧ ∃ q, wr = w.drewN q) (fun i _ => xs.length - (intOf i).toNat)
      case atStart => exact ⟨0, Nat.zero_le _, rfl, by simp [Hid, afUpTo], _, rfl⟩
      case round =>
        obtain ⟨j, hj, rfl, ha, q1, rfl⟩ := hrel
        by_cases hlt2 : j < xs.length
        · obtain ⟨b2, off2, rfl, hbl2, hc2⟩ := hso.at0_ (by omega)
          have hx := hc2 j hlt2
          cases hin : inB (at0 xs j) 0 ((k : Int) - 1)
          · have hbad : afP k xs j = false := by
              cases j with
              | zero => rw [afP_zero]; exact hin
              | succ j => rw [afP_succ ha.out, hin]; rfl
            have HB := Lib.hid (HBAD.out (by rw [HK.out, afUpTo_false hbad hlt2]; simp))
            clear hbad hc2
            go_wp2_with fail
            go_quiet ((first | (go_at_call 39; exact quiet_add_left3 (l1In_any _ _ _ _)) | (go_at_call 39; exact quiet_left3 (l1In_any _ _ _ _))))
            go_wp2
            go_ret
            first | exact ⟨ret_bool HB.out.symm, _, rfl⟩ | exact ⟨ret_bool HB.out.symm, _, World.drewN_drewN _ _ _⟩
          · cases j with
            | zero =>
              have HR := Lib.hid (show afUpTo k xs (0 + 1) = true by rw [afUpTo_succ, ha.out, afP_zero, hin]; rfl)
              have hx0 : w.cell? ⟨b2, off2, none⟩ = some (.int .i64 (at0 xs 0)) := hx
              have hlz : (0 : Int) < (xs.length : Int) := by omega
              clear hc2 hx
              go_wp2_with fail
              go_quiet ((first | (go_at_call 39; exact quiet_add_left3 (l1In_any _ _ _ _)) | (go_at_call 39; exact quiet_left3 (l1In_any _ _ _ _))))
              go_wp2
              go_roundw
              case rel => first | exact ⟨0 + 1, by omega, by go_num, HR, _, rfl⟩ | exact ⟨0 + 1, by omega, by go_num, HR, _, World.drewN_drewN _ _ _⟩
              case measure => simp [intOf]; omega
            | succ j =>
              have hy := hc2 j (by omega)
              have hwp : IntKind.i64.wrap (j : Int) = (j : Int) := by rw [IntKind.wrap_i64]; omega
              have hj0 : (0 : Int) < (j : Int) + 1 := by omega
              have hj00 : (0 : Int) ≤ (j : Int) + 1 := by omega
              have hj1 : (j : Int) + 1 < (xs.length : Int) := by omega
              have hj2 : (j : Int) < (xs.length : Int) := by omega
              have e0 : ((j : Int) + 1).toNat = j + 1 := by omega
              have HAF := Lib.hid (afP_succ ha.out)
              clear hc2
              by_cases hpc : at0 xs j < at0 xs (j + 1)
              · have HR := Lib.hid (show afUpTo k xs (j + 1 + 1) = true by rw [afUpTo_succ, ha.out, HAF.out, hin, decide_eq_true hpc]; rfl)
                have hd : decide (at0 xs (j + 1) ≤ at0 xs j) = false := decide_eq_false (by omega)
                go_wp2_with fail
                go_quiet ((first | (go_at_call 39; exact quiet_add_left3 (l1In_any _ _ _ _)) | (go_at_call 39; exact quiet_left3 (l1In_any _ _ _ _))))
                go_wp2
                go_roundw
                case rel => first | exact ⟨j + 1 + 1, by omega, by go_num, HR, _, rfl⟩ | exact ⟨j + 1 + 1, by omega, by go_num, HR, _, World.drewN_drewN _ _ _⟩
                case measure => simp [intOf]; omega
              · have HB := Lib.hid (HBAD.out (by rw [HK.out, afUpTo_false (k := j + 1) (by rw [HAF.out, decide_eq_false hpc]; simp) hlt2]; simp))
                have hd : decide (at0 xs (j + 1) ≤ at0 xs j) = true := decide_eq_true (by omega)
                go_wp2_with fail
                go_quiet ((first | (go_at_call 39; exact quiet_add_left3 (l1In_any _ _ _ _)) | (go_at_call 39; exact quiet_left3 (l1In_any _ _ _ _))))
                go_wp2
                go_ret
                first | exact ⟨ret_bool HB.out.symm, _, rfl⟩ | exact ⟨ret_bool HB.out.symm, _, World.drewN_drewN _ _ _⟩
        · obtain rfl : j = xs.length := by omega
          cases hin : inB sp 0 30
          · have HB := Lib.hid (HBAD.out (by rw [HK.out, hin]; rfl))
            go_wp2_with (go_at_call 39; refine (l1In_any _ _ _ _).mono ?_; rintro e w' ⟨rfl, rfl⟩)
            go_ret
            exact ⟨ret_bool HB.out.symm, _, rfl⟩
          · have HR := Lib.hid (show tUpTo ts (k + 1) = true by rw [HS.out, HA.out, HK.out, hin, ha.out]; rfl)
            go_wp2_with (go_at_call 39; refine (l1In_any _ _ _ _).mono ?_; rintro e w' ⟨rfl, rfl⟩)
            go_roundw
            case rel => exact ⟨k + 1, by omega, by go_num, HR.out, _, rfl⟩
            case measure => simp [intOf]; omega
    · obtain rfl : k = ts.length := by omega
      go_wp2
      go_ret
      exact ⟨ret_bool (by rw [tasksB, HA.out, Bool.true_and, decide_eq_decide]; omega), _, rfl⟩
set_option maxHeartbeats 8000000 in
theorem impl_tasksValid (A : Option Addr) (c : Nat) (ts : List Tsk) (w : World) (h : ST w w.heap.size A ts) (hl : ts.length + totT ts ≤ 1048576) :
    Calls Try.prog 59 #[.slice A ts.length c] w fun e w' => e = .returned (.bool (tasksB ts)) ∧ Below w.heap.size w w' := by
  by_cases h7 : ts.length ≤ 7
  · go_enter Try.func59, Try.ntmps59
    go_wp2
    go_loopw [13] (fun i wr => ∃ k : Nat, k ≤ ts.length ∧ i = .int .i64 k ∧ tUpTo ts k = true ∧ Below w.heap.size w wr) (fun i _ => ts.length - (intOf i).toNat)
    case atStart => exact ⟨0, Nat.zero_le _, rfl, by simp [tUpTo], Below.refl _ _⟩
    case round =>
      obtain ⟨k, hk, rfl, ha, hW⟩ := hrel
      have HA := Lib.hid ha
      clear ha
      by_cases hlt : k < ts.length
      · obtain ⟨b, off, rfl, hbl, hc⟩ := (h.below hW).atT (by omega)
        obtain ⟨hck0, Aj, cj, hck1, hso⟩ := hc k hlt
        have hlj := len_le_totT ts k hlt
        rw [tat_eq hlt] at hlj
        have HK : Hid (tOk k (tat ts k) = (inB (tat ts k).1 0 30 && afUpTo k (tat ts k).2 (tat ts k).2.length)) := Lib.hid rfl
        have HBAD := Lib.hid (fun hh : tOk k (tat ts k) = false => tasks_bad hlt hh)
        have HS := Lib.hid (tUpTo_succ ts k)
        have hsz := hW.size
        have hbw : b < wr.heap.size := by omega
        clear hc
        generalize (tat ts k).1 = sp at *
        generalize (tat ts k).2 = xs at *
        by_cases g1 : 0 ≤ sp
        · by_cases g2 : sp ≤ 30
          · have HIN := Lib.hid (show inB sp 0 30 = true from inB_true.2 ⟨g1, g2⟩)
            go_wp2
            go_loop [5, 29] (fun bf i => ∃ j : Nat, j ≤ xs.length ∧ i = .int .i64 j ∧ bf = .int .i64 (prv xs j) ∧ Hid (afUpTo k xs j = true)) (fun _ i => xs.length - (intOf i).toNat)
            case atStart => exact ⟨0, Nat.zero_le _, rfl, rfl, by simp [Hid, afUpTo]⟩
            case round =>
              obtain ⟨j, hj, rfl, rfl, ha⟩ := hrel
              by_cases hlt2 : j < xs.length
              · obtain ⟨b2, off2, rfl, hbl2, hc2⟩ := hso.at0_ (by omega)
                have hx := hc2 j hlt2
                have hbw2 : b2 < wr.heap.size := by omega
                have HP : Hid (afP k xs j = (decide (prv xs j < at0 xs j) && decide (at0 xs j < (k : Int)))) := Lib.hid rfl
                have HPS : Hid (prv xs (j + 1) = at0 xs j) := Lib.hid rfl
                clear hc2
                generalize prv xs j = pv at *
                by_cases g3 : pv < at0 xs j
                · by_cases g4 : at0 xs j < (k : Int)
                  · have HR := Lib.hid (show afUpTo k xs (j + 1) = true by rw [afUpTo_succ, ha.out, HP.out, decide_eq_true g3, decide_eq_true g4]; rfl)
                    go_wp2
                    go_round
                    case rel => exact ⟨j + 1, by omega, by go_num, by rw [HPS.out], HR⟩
                    case measure => simp [intOf]; omega
                  · have HB := Lib.hid (HBAD.out (by rw [HK.out, afUpTo_false (k := j) (by rw [HP.out, decide_eq_false g4]; simp) hlt2]; simp))
                    go_wp2
                    all_goals (go_ret; exact ⟨ret_bool HB.out.symm, below_al hW _⟩)
                · have HB := Lib.hid (HBAD.out (by rw [HK.out, afUpTo_false (k := j) (by rw [HP.out, decide_eq_false g3]; simp) hlt2]; simp))
                  go_wp2
                  all_goals (go_ret; exact ⟨ret_bool HB.out.symm, below_al hW _⟩)
              · obtain rfl : j = xs.length := by omega
                have HR := Lib.hid (show tUpTo ts (k + 1) = true by rw [HS.out, HA.out, HK.out, HIN.out, ha.out]; rfl)
                go_wp2
                go_roundw
                case rel => exact ⟨k + 1, by omega, by go_num, HR.out, below_al hW _⟩
                case measure => simp [intOf]; omega
          · have HB := Lib.hid (HBAD.out (by rw [HK.out, inB_false.2 (.inr (by omega))]; rfl))
            replace g2 : 30 < sp := by omega
            go_wp2
            all_goals (go_ret; exact ⟨ret_bool HB.out.symm, below_al hW _⟩)
        · have HB := Lib.hid (HBAD.out (by rw [HK.out, inB_false.2 (.inl (by omega))]; rfl))
          replace g1 : sp < 0 := by omega
          go_wp2
          all_goals (go_ret; exact ⟨ret_bool HB.out.symm, below_al hW _⟩)
      · obtain rfl : k = ts.length := by omega
        go_wp2
        go_ret
        exact ⟨ret_bool (by rw [tasksB, HA.out, decide_eq_true h7]; rfl), hW⟩
  · have hn : Hid (tasksB ts = false) := by simp [Hid, tasksB, h7]
    replace h7 : 7 < ts.length := by omega
    go_enter Try.func59, Try.ntmps59
    go_wp2
    go_ret
    exact ⟨ret_bool hn.out.symm, Below.refl _ _⟩
end Go.Proofs.Ytgndokhehooplaa
