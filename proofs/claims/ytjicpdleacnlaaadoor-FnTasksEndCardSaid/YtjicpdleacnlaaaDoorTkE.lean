/- FnTasksEnd: the law's walk. -/
import Derived.Test.YtjicpdleacnlaaaDoorTkM
import Derived.Deep.RegionHeld3
import Derived.Lib.MinMax
set_option linter.unusedVariables false
set_option linter.unusedSimpArgs false
namespace Go.Proofs.YtjicpdleacnlaaaDoor
open Go.ChangeShapes Go.WideShapes Go.ChangeAt Go.RowKit

set_option maxRecDepth 20000 in
set_option maxHeartbeats 1500000 in
theorem walk_fnTasksEnd (w : World) (A : Option Addr) (c : Nat) (xs : List Int) (h : RV w w.heap.size A (bts xs)) (hc : xs.length ≤ c) (hm : c ≤ maxLen) (hb : ∀ x ∈ xs, 0 ≤ x ∧ x ≤ 255) :
    Calls Tryd.prog 8 #[.slice A xs.length c] w fun e w' => e = .returned (.bool true) ∧ Below w.heap.size w w' := by
  unfold maxLen at hm
  by_cases hl : xs.length ≤ 1048576
  · have HD := Lib.hid (drawTasksEnd_any A c xs w h hc hl hb)
    clear hb h
    have hd8 : decide ((1048576 : Int) < (xs.length : Int)) = false := decide_eq_false (by omega)
    go_enter Tryd.func8, Tryd.ntmps8
    go_wp2_with fail
    refine HD.out.mono ?_
    rintro e w1 ⟨v, ts, rfl, o, ⟨hl8, hl100⟩, bel⟩
    obtain ⟨A1, c1, rfl, hcl, hcm⟩ := o.form
    have hr1 := o.reads
    clear o HD hd8
    go_wp2_with fail
    refine (impl_tasksEnd A1 c1 ts _ hr1 (by omega)).mono ?_
    rintro e w2 ⟨rfl, b2⟩
    replace hr1 := hr1.step b2
    replace bel := below_step bel b2
    clear b2
    go_wp2_with fail
    refine (spec_tasksEnd A1 c1 ts _ hr1 (by omega)).mono ?_
    rintro e w3 ⟨rfl, b3⟩
    replace hr1 := hr1.step b3
    replace bel := below_step bel b3
    clear b3
    cases hs : tasksB ts
    · have hx := endF_no hs
      rw [hx]
      clear hx hs
      go_wp2_with fail
      refine (alive_any _).mono ?_
      rintro e w99 ⟨rfl, b99⟩
      go_wp2
      go_ret
      exact ⟨rfl, below_step bel b99⟩
    · obtain ⟨i1, i2⟩ := endF_bound hs
      have HSP := Lib.hid (end_span hs)
      have HSUM := Lib.hid (end_sum hs)
      have HTK := Lib.hid (end_take hs)
      have HSB := Lib.hid (spS_bound hs)
      have HTS := Lib.hid (task_span hs)
      have HLT := Lib.hid (fun n : Nat => totT_take (ts := ts) n)
      have HEB := Lib.hid (fun n hn => endF_bound (tasks_take hs n hn))
      clear hs
      generalize endF ts = x at *
      have hd1 : decide (x < 0) = false := decide_eq_false (by omega)
      go_wp2
      go_loop [5, 6] (fun s i => ∃ k : Nat, k ≤ ts.length ∧ i = .int .i64 k ∧ s = .int .i64 (spS ts k)) (fun _ i => ts.length - (intOf i).toNat)
      case atStart => exact ⟨0, Nat.zero_le _, rfl, rfl⟩
      case round =>
        obtain ⟨k, hk, rfl, rfl⟩ := hrel
        by_cases hlt : k < ts.length
        · obtain ⟨b, off, rfl, hbl, hcc⟩ := hr1.atT (by omega)
          obtain ⟨e1, -⟩ := hcc k hlt
          have i8 := HSP.out k hlt
          have i9 := HSB.out k
          have i10 := HTS.out k
          have HSS := Lib.hid (spS_succ ts k)
          clear hcc
          generalize spS ts k = s at *
          generalize (tat ts k).1 = y at *
          have hd2 : decide (x < y) = false := decide_eq_false (by omega)
          go_wp2
          go_round
          case rel => exact ⟨k + 1, by omega, by go_num, by rw [HSS.out]⟩
          case measure => (simp [intOf]) <;> omega
        · obtain rfl : k = ts.length := by omega
          have hsum := HSUM.out
          clear hk hlt HSUM HSP HSB HTS
          generalize spS ts ts.length = s at *
          by_cases hp : 0 < ts.length
          · obtain ⟨n, hn⟩ : ∃ n, n = ts.length - 1 := ⟨_, rfl⟩
            have htl : (ts.take n).length = n := by rw [List.length_take]; omega
            have hn0 : ((ts.length : Int) - 1).toNat = n := by omega
            have hn1 : (ts.length : Int) - 1 = (n : Int) := by omega
            have hz1 : ((ts.length : Int) == 0) = false := by rw [beq_eq_false_iff_ne]; omega
            have hcall := impl_tasksEnd A1 c1 (ts.take n) _ (hr1.take n) (by have := HLT.out n; omega)
            rw [htl] at hcall
            have HC := Lib.hid hcall
            have hle := HTK.out n (by omega)
            have hge := HEB.out n (by omega)
            clear hcall HTK HEB HLT hn0 hn1 htl
            subst hn
            generalize endF (ts.take (ts.length - 1)) = y at *
            go_wp2_with fail
            refine HC.out.mono ?_
            rintro e w4 ⟨rfl, b4⟩
            go_wp2
            go_ret
            first | exact ⟨rfl, below_step bel b4⟩ | exact ⟨ret_bool (by simp; try omega), below_step bel b4⟩
          · have hz1 : ((ts.length : Int) == 0) = true := by rw [beq_iff_eq]; omega
            go_wp2
            go_ret
            first | exact ⟨rfl, bel⟩ | exact ⟨ret_bool (by simp; try omega), bel⟩
  · go_enter Tryd.func8, Tryd.ntmps8
    go_wp2
    go_ret
    exact ⟨rfl, Below.refl _ _⟩
end Go.Proofs.YtjicpdleacnlaaaDoor
