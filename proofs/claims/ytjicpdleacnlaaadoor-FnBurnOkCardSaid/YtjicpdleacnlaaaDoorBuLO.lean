/- FnBurnOk: the law's walk. -/
import Derived.Test.YtjicpdleacnlaaaDoorSamB
import Derived.Test.YtjicpdleacnlaaaDoorDrawB
import Derived.Test.YtjicpdleacnlaaaDoorBurn4
import Derived.Deep.RegionHeld3
import Derived.Lib.MinMax
set_option linter.unusedVariables false
set_option linter.unusedSimpArgs false
namespace Go.Proofs.YtjicpdleacnlaaaDoor
open Go.ChangeShapes Go.WideShapes Go.ChangeAt Go.RowKit

theorem burn_zero {xs : List Int} {m : Int} {on : List Int} (h : burnB xs m on = true) : burnB xs m (List.replicate on.length 0) = true := by
  obtain ⟨h1, h2, h3, h4⟩ := burn_parts h
  refine burn_mk (fun x hx => ?_) h2 h3 (by simpa using h4)
  rw [(List.mem_replicate.1 hx).2]; omega
set_option maxRecDepth 20000 in
set_option maxHeartbeats 2000000 in
theorem walk_fnBurnOk (w : World) (A : Option Addr) (c : Nat) (xs : List Int) (h : RV w w.heap.size A (bts xs)) (hc : xs.length ≤ c) (hm : c ≤ maxLen) (hb : ∀ x ∈ xs, 0 ≤ x ∧ x ≤ 255) :
    Calls Tryd.prog 3 #[.slice A xs.length c] w fun e w' => e = .returned (.bool true) ∧ Below w.heap.size w w' := by
  unfold maxLen at hm
  by_cases hl : xs.length ≤ 1048576
  · have HD := Lib.hid (drawBurnOk_any A c xs w h hc hl hb)
    clear hb h
    have hd8 : decide ((1048576 : Int) < (xs.length : Int)) = false := decide_eq_false (by omega)
    go_enter Tryd.func3, Tryd.ntmps3
    go_wp2_with fail
    refine HD.out.mono ?_
    rintro e w1 ⟨v, v2, os, on, m, rfl, o, o2, ⟨hol, hol2⟩, hmb, bel⟩
    obtain ⟨A1, c1, rfl, hr1, -⟩ := own_form o
    obtain ⟨A2, c2, rfl, hr2, -⟩ := own_form o2
    clear o o2 HD hd8
    go_wp2_with fail
    refine (impl_burnOk A1 A2 c1 c2 os on m _ _ _ hr1 hr2 (by omega) (by omega) (by omega)).mono ?_
    rintro e w' ⟨rfl, rfl⟩
    go_wp2_with fail
    refine (spec_burnOk A1 A2 c1 c2 os on m _ _ _ hr1 hr2 (by omega) (by omega) (by omega)).mono ?_
    rintro e w' ⟨rfl, rfl⟩
    cases hs : burnB os m on
    · go_wp2_with fail
      refine (alive_any _).mono ?_
      rintro e w99 ⟨rfl, b99⟩
      go_wp2
      go_ret
      exact ⟨rfl, below_step bel b99⟩
    · have HZ := Lib.hid (burn_zero hs)
      have hmk := run_make_row' (P := Tryd.prog) 23 3 (.int .i64 0) 8 Tryd.underlying23 int_info rfl .i64 .i64 on.length (by omega) (by omega)
      have hB := blk_made w1 (.int .i64 0) on.length 3
      rw [filled_nil, ← ints_replicate] at hB
      have hlz : (List.replicate on.length (0 : Int)).length = on.length := List.length_replicate
      have HRZ := Lib.hid hB.isB
      have HLZ := Lib.hid hlz
      clear hB hs hlz
      go_wp2_with fail
      clear hmk
      have hx := impl_burnOk A1 (some ⟨w1.heap.size, 0, none⟩) c1 on.length os (List.replicate on.length 0) m _ _ _ (RV.step hr1 (below_al (Below.refl _ _) _)) HRZ.out (by omega) (by rw [HLZ.out]; omega) (by omega)
      rw [HZ.out, HLZ.out] at hx
      refine hx.mono ?_
      rintro e w' ⟨rfl, rfl⟩
      have bel0 : Below w.heap.size w (w1.alloc (.cells (madeCells #[.int .i64 0] on.length) 3)) := below_al bel _
      clear hx HRZ
      go_wp2_with fail
      refine (alive_any _).mono ?_
      rintro e w99 ⟨rfl, b99⟩
      go_wp2
      go_ret
      exact ⟨rfl, below_step bel0 b99⟩
  · go_enter Tryd.func3, Tryd.ntmps3
    go_wp2
    go_ret
    exact ⟨rfl, Below.refl _ _⟩
end Go.Proofs.YtjicpdleacnlaaaDoor
