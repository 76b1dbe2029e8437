/- StartsOk: what the program and the reference compute. -/
import Derived.Test.YtjicpdleacnlaaaDoorTask5
import Derived.Test.YtjicpdleacnlaaaDoorTaskQ
set_option linter.unusedVariables false
set_option linter.unusedSimpArgs false
namespace Go.Proofs.YtjicpdleacnlaaaDoor
open Go.ChangeShapes Go.WideShapes Go.ChangeAt Go.RowKit

theorem starts_no {ts : List Tsk} {xs : List Int} (h : tasksB ts = false) : startsB ts xs = false := by simp [startsB, h]
theorem starts_len {ts : List Tsk} {xs : List Int} (h : ¬ xs.length = ts.length) : startsB ts xs = false := by
  rw [Bool.eq_false_iff]; intro hs; exact h (st_parts hs).2.1
theorem starts_range {ts : List Tsk} {xs : List Int} {k : Nat} (hk : k < xs.length) (h : inB (at0 xs k) 0 9999 = false) : startsB ts xs = false := by
  rw [Bool.eq_false_iff]; intro hs
  have := (st_parts hs).2.2.1 k hk
  rw [inB_false] at h; omega
theorem starts_wait {ts : List Tsk} {xs : List Int} {k j : Nat} (hk : k < ts.length) (hj : j < (tat ts k).2.length) (h : wOk ts xs k (tat ts k).2 j = false) : startsB ts xs = false := by
  rw [Bool.eq_false_iff]; intro hs
  have := (st_parts hs).2.2.2 k hk j hj
  simp [wOk] at h; omega
def rgUpTo (xs : List Int) (n : Nat) : Prop := ∀ k, k < n → inB (at0 xs k) 0 9999 = true
theorem rgUpTo_succ {xs : List Int} {n : Nat} (h : rgUpTo xs n) (h2 : inB (at0 xs n) 0 9999 = true) : rgUpTo xs (n + 1) := by
  intro k hk
  by_cases e : k = n
  · subst e; exact h2
  · exact h k (by omega)
theorem starts_yes {ts : List Tsk} {xs : List Int} (h1 : tasksB ts = true) (h2 : xs.length = ts.length) (h3 : rgUpTo xs xs.length) (h4 : stUpTo ts xs ts.length = true) : startsB ts xs = true := by
  rw [startsB, h1, h4, amt_mk (by omega) (fun k hk => inB_true.1 (h3 k hk))]; rfl
set_option maxRecDepth 20000 in
set_option maxHeartbeats 8000000 in
theorem spec_startsOk (A A' : Option Addr) (c c' : Nat) (ts : List Tsk) (xs : List Int) (w : World) (B B' : Nat) (h : ST w B A ts) (h' : IS w B' A' xs) (hl : ts.length + totT ts ≤ 1048576) (hlx : xs.length ≤ 1048576) (hx : ∀ k, -100000 ≤ at0 xs k ∧ at0 xs k ≤ 100000) :
    Calls Tryd.prog 43 #[.slice A ts.length c, .slice A' xs.length c'] w fun e w' => e = .returned (.bool (startsB ts xs)) ∧ ∃ q, w' = w.drewN q := by
  have HX := Lib.hid hx
  clear hx
  cases hs : tasksB ts
  · have HE := Lib.hid (starts_no (xs := xs) hs)
    go_enter Tryd.func43, Tryd.ntmps43
    go_wp2_with (go_at_call 31; refine (spec_tasksValid A c ts _ _ h hl).mono ?_; rintro e w1 ⟨rfl, q, rfl⟩)
    go_ret
    exact ⟨ret_bool HE.out.symm, _, rfl⟩
  · by_cases e : xs.length = ts.length
    · have HS := Lib.hid hs
      have h7 := tasks_len hs
      have HLE := Lib.hid e
      rw [e]
      clear e hlx
      go_enter Tryd.func43, Tryd.ntmps43
      go_wp2_with (go_at_call 31; refine (spec_tasksValid A c ts _ _ h hl).mono ?_; rintro e w1 ⟨rfl, q, rfl⟩)
      clear hs
      go_loopw [5] (fun i wr => ∃ k : Nat, k ≤ ts.length ∧ i = .int .i64 k ∧ Hid (stUpTo ts xs k = true) ∧ Hid (rgUpTo xs k) ∧ ∃ q, wr = w.drewN q) (fun i _ => ts.length - (intOf i).toNat)
      case atStart => exact ⟨0, Nat.zero_le _, rfl, by simp [Hid, stUpTo], Lib.hid (fun k hk => by omega), q, rfl⟩
      case round =>
        obtain ⟨k, hk, rfl, HU, HR, q0, rfl⟩ := hrel
        by_cases hlt : k < ts.length
        · obtain ⟨b, off, rfl, hbl, hc⟩ := h.atT (by omega)
          obtain ⟨hck0, Aj, cj, hck1, hso⟩ := hc k hlt
          obtain ⟨b2, off2, rfl, hbl2, hc2⟩ := h'.at0_ (by rw [HLE.out]; omega)
          have hxk := hc2 k (by rw [HLE.out]; omega)
          have hlj := len_le_totT ts k hlt
          rw [tat_eq hlt] at hlj
          have HC := Lib.hid hc
          have HC2 := Lib.hid hc2
          clear hc hc2 hck0
          cases hin : inB (at0 xs k) 0 9999
          · have HB := Lib.hid (starts_range (ts := ts) (by rw [HLE.out]; exact hlt) hin)
            go_wp2_with (go_at_call 52; refine (l1In_any _ _ _ _).mono ?_; rintro e w' ⟨rfl, rfl⟩)
            go_ret
            exact ⟨ret_bool HB.out.symm, _, rfl⟩
          · have HR2 := Lib.hid (rgUpTo_succ HR.out hin)
            have HAFT := Lib.hid (fun j hj => task_after HS.out k hlt j hj)
            have HSP := Lib.hid (task_span HS.out)
            have HU2 : Hid (stUpTo ts xs (k + 1) = wUpTo ts xs k (tat ts k).2 (tat ts k).2.length) := Lib.hid (by rw [stUpTo_succ, HU.out, Bool.true_and])
            have HW := Lib.hid (fun j hj hh => starts_wait (xs := xs) (j := j) hlt hj hh)
            have hxb := HX.out k
            generalize (tat ts k).2 = zs at *
            generalize hxx : at0 xs k = x at *
            have HXX := Lib.hid hxx
            clear hxx
            go_wp2_with (go_at_call 52; refine (l1In_any _ _ _ _).mono ?_; rintro e w' ⟨rfl, rfl⟩)
            go_loopw [6] (fun i wr => ∃ j : Nat, j ≤ zs.length ∧ i = .int .i64 j ∧ Hid (wUpTo ts xs k zs j = true) ∧ ∃ q, wr = w.drewN q) (fun i _ => zs.length - (intOf i).toNat)
            case atStart => exact ⟨0, Nat.zero_le _, rfl, by simp [Hid, wUpTo], _, rfl⟩
            case round =>
              obtain ⟨j, hj, rfl, ha, q1, rfl⟩ := hrel
              by_cases hlt2 : j < zs.length
              · obtain ⟨b3, off3, rfl, hbl3, hc3⟩ := hso.at0_ (by omega)
                have hz := hc3 j hlt2
                obtain ⟨a, hai⟩ : ∃ a : Nat, at0 zs j = a := ⟨(at0 zs j).toNat, by have := HAFT.out j hlt2; omega⟩
                have hak : a < k := by have := HAFT.out j hlt2; omega
                have HAI := Lib.hid hai
                rw [hai] at hz
                obtain ⟨hsa, -⟩ := HC.out a (by omega)
                have hxa := HC2.out a (by rw [HLE.out]; omega)
                have HST : Hid (wOk ts xs k zs j = decide (at0 xs a + (tat ts a).1 ≤ x)) := Lib.hid (by rw [wOk, afA, HAI.out, HXX.out]; rfl)
                have HSS := Lib.hid (wUpTo_succ ts xs k zs j)
                have hbd1 := HX.out a
                have hbd2 := HSP.out a
                have hat : a < ts.length := by omega
                have HWJ := Lib.hid (HW.out j hlt2)
                clear hc3 hai
                generalize at0 xs a = y at *
                generalize (tat ts a).1 = s at *
                have hwp : IntKind.i64.wrap (y + s) = y + s := by rw [IntKind.wrap_i64]; omega
                by_cases hle : y + s ≤ x
                · have HU3 := Lib.hid (show wUpTo ts xs k zs (j + 1) = true by rw [HSS.out, ha.out, HST.out, decide_eq_true hle]; rfl)
                  have hd : decide (x < y + s) = false := decide_eq_false (by omega)
                  go_wp2_with fail
                  go_quiet (fail)
                  go_wp2
                  go_roundw
                  case rel => first | exact ⟨j + 1, by omega, by go_num, HU3, _, rfl⟩ | exact ⟨j + 1, by omega, by go_num, HU3, _, World.drewN_drewN _ _ _⟩
                  case measure => (simp [intOf]) <;> omega
                · have HB := Lib.hid (HWJ.out (by rw [HST.out, decide_eq_false hle]))
                  have hd : decide (x < y + s) = true := decide_eq_true (by omega)
                  go_wp2_with fail
                  go_quiet (fail)
                  go_wp2
                  go_ret
                  first | exact ⟨ret_bool HB.out.symm, _, rfl⟩ | exact ⟨ret_bool HB.out.symm, _, World.drewN_drewN _ _ _⟩
              · obtain rfl : j = zs.length := by omega
                have HU4 := Lib.hid (show stUpTo ts xs (k + 1) = true by rw [HU2.out, ha.out])
                go_wp2
                go_roundw
                case rel => exact ⟨k + 1, by omega, by go_num, HU4, HR2, _, rfl⟩
                case measure => (simp [intOf]) <;> omega
        · obtain rfl : k = ts.length := by omega
          have HB := Lib.hid (starts_yes HS.out HLE.out (by rw [HLE.out]; exact HR.out) HU.out)
          go_wp2
          go_ret
          exact ⟨ret_bool HB.out.symm, _, rfl⟩
    · have HE := Lib.hid (starts_len (ts := ts) (xs := xs) e)
      have hne : ((xs.length : Int) == (ts.length : Int)) = false := by simp; omega
      go_enter Tryd.func43, Tryd.ntmps43
      go_wp2_with (go_at_call 31; refine (spec_tasksValid A c ts _ _ h hl).mono ?_; rintro e w1 ⟨rfl, q, rfl⟩)
      go_ret
      exact ⟨ret_bool HE.out.symm, _, rfl⟩
theorem starts_amt {ts : List Tsk} {xs : List Int} (h : amtB xs ts.length 9999 = false) : startsB ts xs = false := by simp [startsB, h]
theorem starts_yes2 {ts : List Tsk} {xs : List Int} (h1 : tasksB ts = true) (h2 : amtB xs ts.length 9999 = true) (h4 : stUpTo ts xs ts.length = true) : startsB ts xs = true := by
  rw [startsB, h1, h4, h2]; rfl
set_option maxRecDepth 20000 in
set_option maxHeartbeats 8000000 in
theorem impl_startsOk (A A' : Option Addr) (c c' : Nat) (ts : List Tsk) (xs : List Int) (w : World) (h : ST w w.heap.size A ts) (h' : IS w w.heap.size A' xs) (hl : ts.length + totT ts ≤ 1048576) (hlx : xs.length ≤ 1048576) :
    Calls Tryd.prog 38 #[.slice A ts.length c, .slice A' xs.length c'] w fun e w' => e = .returned (.bool (startsB ts xs)) ∧ Below w.heap.size w w' := by
  cases hs : tasksB ts
  · have HE := Lib.hid (starts_no (xs := xs) hs)
    go_enter Tryd.func38, Tryd.ntmps38
    go_wp2_with (go_at_call 30; refine (impl_tasksValid A c ts _ h hl).mono ?_; rintro e w1 ⟨rfl, b1⟩)
    go_ret
    exact ⟨ret_bool HE.out.symm, b1⟩
  · cases ha : amtB xs ts.length 9999
    · have HE := Lib.hid (starts_amt ha)
      go_enter Tryd.func38, Tryd.ntmps38
      go_wp2_with fail
      refine (impl_tasksValid A c ts _ h hl).mono ?_
      rintro e w1 ⟨rfl, b1⟩
      go_wp2_with fail
      refine (amountsOk_any A' c' xs (ts.length : Int) 9999 _ _ (RV.below h' b1) (by omega)).mono ?_
      rintro e w' ⟨rfl, rfl⟩
      rw [ha]
      clear ha hs
      go_wp2
      go_ret
      exact ⟨ret_bool HE.out.symm, b1⟩
    · obtain ⟨hle, hrg⟩ := amt_all ha
      have HS := Lib.hid hs
      have HAM := Lib.hid ha
      have h7 := tasks_len hs
      have HLE := Lib.hid (show xs.length = ts.length by omega)
      have HRG := Lib.hid hrg
      go_enter Tryd.func38, Tryd.ntmps38
      go_wp2_with fail
      refine (impl_tasksValid A c ts _ h hl).mono ?_
      rintro e w1 ⟨rfl, b1⟩
      go_wp2_with fail
      refine (amountsOk_any A' c' xs (ts.length : Int) 9999 _ _ (RV.below h' b1) (by omega)).mono ?_
      rintro e w' ⟨rfl, rfl⟩
      rw [ha]
      clear ha hs hle hrg
      rw [HLE.out]
      go_wp2
      skip
      go_loopw [21] (fun i wr => ∃ k : Nat, k ≤ ts.length ∧ i = .int .i64 k ∧ Hid (stUpTo ts xs k = true) ∧ Below w.heap.size w wr) (fun i _ => ts.length - (intOf i).toNat)
      case atStart => exact ⟨0, Nat.zero_le _, rfl, by simp [Hid, stUpTo], b1⟩
      case round =>
        obtain ⟨k, hk, rfl, HU, hW⟩ := hrel
        by_cases hlt : k < ts.length
        · obtain ⟨b, off, rfl, hbl, hc⟩ := (h.below hW).atT (by omega)
          obtain ⟨hck0, Aj, cj, hck1, hso⟩ := hc k hlt
          have hlj := len_le_totT ts k hlt
          rw [tat_eq hlt] at hlj
          have HAFT := Lib.hid (fun j hj => task_after HS.out k hlt j hj)
          have HSP := Lib.hid (task_span HS.out)
          have HU2 : Hid (stUpTo ts xs (k + 1) = wUpTo ts xs k (tat ts k).2 (tat ts k).2.length) := Lib.hid (by rw [stUpTo_succ, HU.out, Bool.true_and])
          have HW := Lib.hid (fun j hj hh => starts_wait (xs := xs) (j := j) hlt hj hh)
          have hxb := HRG.out k (by rw [HLE.out]; exact hlt)
          have hsz := hW.size
          have hbw : b < wr.heap.size := by omega
          have HSO := Lib.hid hso
          have HH := Lib.hid h
          have HH' := Lib.hid h'
          have HWW := Lib.hid hW
          obtain ⟨wo, rfl⟩ : ∃ wo : World, wo = wr := ⟨_, rfl⟩
          clear hc hso h h'
          generalize (tat ts k).2 = zs at *
          generalize (tat ts k).1 = sp at *
          generalize hxx : at0 xs k = x at *
          have HXX := Lib.hid hxx
          clear hxx
          go_wp2
          go_loopw [29] (fun i wr => ∃ j : Nat, j ≤ zs.length ∧ i = .int .i64 j ∧ Hid (wUpTo ts xs k zs j = true) ∧ Below w.heap.size wo wr) (fun i _ => zs.length - (intOf i).toNat)
          case atStart => exact ⟨0, Nat.zero_le _, rfl, by simp [Hid, wUpTo], ((Below.refl wo.heap.size wo).alloc (Nat.le_refl _) _).mono hsz⟩
          case round =>
            obtain ⟨j, hj, rfl, ha, hW2⟩ := hrel
            by_cases hlt2 : j < zs.length
            · obtain ⟨b2, off2, rfl, hbl2, hc2⟩   := IS.at0_ (RV.below HH'.out (HWW.out.trans hW2)) (by rw [HLE.out]; omega)
              have hxk := hc2 k (by rw [HLE.out]; omega)
              rw [HXX.out] at hxk
              obtain ⟨b3, off3, rfl, hbl3, hc3⟩ := IS.at0_ (RV.below HSO.out hW2) (by omega)
              obtain ⟨b', off', hbo, hbl', hc⟩ := (HH.out.below (HWW.out.trans hW2)).atT (by omega)
              injection hbo with hbo
              injection hbo with hbo1 hbo2 _
              subst hbo1 hbo2
              have hz := hc3 j hlt2
              obtain ⟨a, hai⟩ : ∃ a : Nat, at0 zs j = a := ⟨(at0 zs j).toNat, by have := HAFT.out j hlt2; omega⟩
              have hak : a < k := by have := HAFT.out j hlt2; omega
              have HAI := Lib.hid hai
              rw [hai] at hz
              obtain ⟨hsa, -⟩ := hc a (by omega)
              have hxa := hc2 a (by rw [HLE.out]; omega)
              have HST : Hid (wOk ts xs k zs j = decide (at0 xs a + (tat ts a).1 ≤ x)) := Lib.hid (by rw [wOk, afA, HAI.out, HXX.out]; rfl)
              have HSS := Lib.hid (wUpTo_succ ts xs k zs j)
              have hbd1 := HRG.out a (by rw [HLE.out]; omega)
              have hbd2 := HSP.out a
              have hat : a < ts.length := by omega
              have HWJ := Lib.hid (HW.out j hlt2)
              clear hc hc2 hc3 hai
              generalize at0 xs a = y at *
              generalize (tat ts a).1 = s at *
              have hwp : IntKind.i64.wrap (y + s) = y + s := by rw [IntKind.wrap_i64]; omega
              by_cases hle : y + s ≤ x
              · have HU3 := Lib.hid (show wUpTo ts xs k zs (j + 1) = true by rw [HSS.out, ha.out, HST.out, decide_eq_true hle]; rfl)
                have hd : decide (x < y + s) = false := decide_eq_false (by omega)
                go_wp2_with fail
                go_quiet (fail)
                go_wp2
                go_roundw
                case rel => exact ⟨j + 1, by omega, by go_num, HU3, below_drewN hW2 _⟩
                case measure => (simp [intOf]) <;> omega
              · have HB := Lib.hid (HWJ.out (by rw [HST.out, decide_eq_false hle]))
                have hd : decide (x < y + s) = true := decide_eq_true (by omega)
                go_wp2_with fail
                go_quiet (fail)
                go_wp2
                go_ret
                exact ⟨ret_bool HB.out.symm, below_drewN (HWW.out.trans hW2) _⟩
            · obtain rfl : j = zs.length := by omega
              have HU4 := Lib.hid (show stUpTo ts xs (k + 1) = true by rw [HU2.out, ha.out])
              go_wp2
              go_roundw
              case rel => exact ⟨k + 1, by omega, by go_num, HU4, HWW.out.trans hW2⟩
              case measure => (simp [intOf]) <;> omega
        · obtain rfl : k = ts.length := by omega
          have HB := Lib.hid (starts_yes2 HS.out HAM.out HU.out)
          go_wp2
          go_ret
          exact ⟨ret_bool HB.out.symm, hW⟩
end Go.Proofs.YtjicpdleacnlaaaDoor
