/- FnOrderOk's argument is drawn. -/
import Derived.Test.YtnehedcelfpegaaDoorDrawH
import Derived.Test.YtnehedcelfpegaaDoorAlive
set_option linter.unusedVariables false
set_option linter.unusedSimpArgs false
namespace Go.Proofs.YtnehedcelfpegaaDoor
open Go.ChangeShapes Go.WideShapes Go.ChangeAt Go.RowKit

set_option maxRecDepth 20000 in
set_option maxHeartbeats 2000000 in
theorem drawOrderOk_any (A : Option Addr) (c : Nat) (xs : List Int) (w : World) (h : RV w w.heap.size A (bts xs)) (hc : xs.length ≤ c) (hl : xs.length ≤ 1048576) (hb : ∀ x ∈ xs, 0 ≤ x ∧ x ≤ 255) :
    Calls Tryd.prog 19 #[.slice A xs.length c] w fun e w' => ∃ (v : Value) (os : List Int) (m : Nat), e = .returned (.tuple #[v, .int .i64 m]) ∧ OI w' w.heap.size v os ∧ (os.length ≤ 100 ∧ m ≤ 100) ∧ Below w.heap.size w w' := by
  have HO := Lib.hid (open_any A c xs w h hc hl hb)
  clear hb h
  go_enter Tryd.func19, Tryd.ntmps19
  go_wp2_with fail
  refine HO.out.mono ?_
  rintro e w1 ⟨g, rfl, r1, b1⟩
  have hg := r1.lt
  have hs1 := b1.size
  go_wp2_with fail
  refine (pick_any w.heap.size g 0 7 _ r1 (by omega) (by omega) (by omega)).mono ?_
  rintro e w2 ⟨m', rfl, ⟨hm0, hm7⟩, r2, c2⟩
  obtain ⟨m, rfl⟩ : ∃ m : Nat, m' = m := ⟨m'.toNat, by omega⟩
  have b2 := Below.chg b1 c2 hg.1
  have hs2 := b2.size
  go_wp2_with fail
  refine (l20Shuffle_any w.heap.size g _ m 3 _ r2 (by omega) (by omega) (by omega) (by omega)).mono ?_
  rintro e w3 ⟨v, os, rfl, o, hol, r3, c3⟩
  have b3 := Below.chg b2 c3 hg.1
  have hg3 := r2.lt
  go_wp2_with fail
  refine (pick_any w.heap.size g _ 12 _ r3 (by omega) (by omega) (by omega)).mono ?_
  rintro e w4 ⟨q, rfl, ⟨hq0, hq1⟩, r4, c4⟩
  obtain ⟨d, hd, hd0, hd1⟩ : ∃ d : Int, q.tdiv 11 = d ∧ 0 ≤ d ∧ d ≤ 1 := ⟨_, rfl, by rw [Int.tdiv_eq_ediv_of_nonneg hq0]; omega, by rw [Int.tdiv_eq_ediv_of_nonneg hq0]; omega⟩
  obtain ⟨t, ht⟩ : ∃ t : Nat, (m : Int) + d = t := ⟨((m : Int) + d).toNat, by omega⟩
  have hO := OI.mono (show OI w4 w2.heap.size v os from own_chg o c4 hg3.2) hs2
  go_wp2
  go_ret2
  exact ⟨v, os, t, by rw [← ht]; rfl, hO, by omega, Below.chg b3 c4 hg.1⟩
end Go.Proofs.YtnehedcelfpegaaDoor
