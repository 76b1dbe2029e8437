/- FnTipOf: the walk of the law. -/
import Derived.Test.YtnopgmgoehenpaaDoorInts
import Derived.Test.YtnopgmgoehenpaaDoorDraw0
import Derived.Test.YtnopgmgoehenpaaDoorAlive
namespace Go.Proofs.YtnopgmgoehenpaaDoor
open Go.ChangeShapes Go.WideShapes Go.ChangeAt Go.RowKit

theorem spec_tip_no (a b : Int) (w : World) (h : ¬ (0 ≤ a ∧ a ≤ 9999 ∧ 0 ≤ b ∧ b ≤ 100)) :
    Calls Tryd.prog 6 #[.int .i64 a, .int .i64 b] w fun e w' => e = .returned (.int .i64 (-1)) ∧ w = w' := by
  by_cases h1 : inB a 0 9999 = true
  · have h2 : inB b 0 100 = false := by rw [inB_true] at h1; rw [inB_false]; omega
    go_enter Tryd.func6, Tryd.ntmps6
    go_wp2_with (go_at_call 11; refine (l1In_any _ _ _ _).mono ?_; rintro e w' ⟨rfl, rfl⟩)
    go_ret
    exact ⟨rfl, rfl⟩
  · have h1' : inB a 0 9999 = false := by simpa using h1
    clear h1
    go_enter Tryd.func6, Tryd.ntmps6
    go_wp2_with (go_at_call 11; refine (l1In_any _ _ _ _).mono ?_; rintro e w' ⟨rfl, rfl⟩)
    go_ret
    exact ⟨rfl, rfl⟩
theorem tip_bounds (a b : Int) (h1 : 0 ≤ a) (h2 : a ≤ 9999) (h3 : 0 ≤ b) (h4 : b ≤ 100) : 0 ≤ a * b ∧ a * b ≤ 999900 := by
  have h5 : 0 ≤ a * b := Int.mul_nonneg h1 h3
  have := Int.mul_le_mul h2 h4 h3 (by omega)
  omega
theorem spec_tip_yes (a b : Int) (w : World) (h1 : 0 ≤ a) (h2 : a ≤ 9999) (h3 : 0 ≤ b) (h4 : b ≤ 100) :
    Calls Tryd.prog 6 #[.int .i64 a, .int .i64 b] w fun e w' => e = .returned (.int .i64 ((a * b + 99) / 100)) ∧ w = w' := by
  obtain ⟨h5, h6⟩ := tip_bounds a b h1 h2 h3 h4
  have g1 : inB a 0 9999 = true := inB_true.2 ⟨h1, h2⟩
  have g2 : inB b 0 100 = true := inB_true.2 ⟨h3, h4⟩
  go_enter Tryd.func6, Tryd.ntmps6
  go_wp2_with (go_at_call 11; refine (l1In_any _ _ _ _).mono ?_; rintro e w' ⟨rfl, rfl⟩)
  go_ret
  exact ⟨rfl, rfl⟩
theorem impl_tip_no (a b : Int) (w : World) (h : ¬ (0 ≤ a ∧ a ≤ 9999 ∧ 0 ≤ b ∧ b ≤ 100)) :
    Calls Tryd.prog 5 #[.int .i64 a, .int .i64 b] w fun e w' => e = .returned (.int .i64 (-1)) ∧ w = w' := by
  go_enter Tryd.func5, Tryd.ntmps5
  go_wp2
  all_goals (go_ret; exact ⟨rfl, rfl⟩)
theorem impl_tip_yes (a b : Int) (w : World) (h1 : 0 ≤ a) (h2 : a ≤ 9999) (h3 : 0 ≤ b) (h4 : b ≤ 100) :
    Calls Tryd.prog 5 #[.int .i64 a, .int .i64 b] w fun e w' => e = .returned (.int .i64 ((a * b + 99) / 100)) ∧ w = w' := by
  obtain ⟨h5, h6⟩ := tip_bounds a b h1 h2 h3 h4
  go_enter Tryd.func5, Tryd.ntmps5
  go_wp2
  go_ret
  exact ⟨rfl, rfl⟩

def tipF (a b : Int) : Int := if 0 ≤ a ∧ a ≤ 9999 ∧ 0 ≤ b ∧ b ≤ 100 then (a * b + 99) / 100 else -1
theorem spec_tip (a b : Int) (w : World) : Calls Tryd.prog 6 #[.int .i64 a, .int .i64 b] w fun e w' => e = .returned (.int .i64 (tipF a b)) ∧ w = w' := by
  unfold tipF; split
  · rename_i h; exact spec_tip_yes a b w h.1 h.2.1 h.2.2.1 h.2.2.2
  · rename_i h; exact spec_tip_no a b w h
theorem impl_tip (a b : Int) (w : World) : Calls Tryd.prog 5 #[.int .i64 a, .int .i64 b] w fun e w' => e = .returned (.int .i64 (tipF a b)) ∧ w = w' := by
  unfold tipF; split
  · rename_i h; exact impl_tip_yes a b w h.1 h.2.1 h.2.2.1 h.2.2.2
  · rename_i h; exact impl_tip_no a b w h
set_option maxHeartbeats 2000000 in
theorem l20Sum_any (base g M : Nat) (w : World) (h : Rd w base g M) (hM : M ≤ 900000) :
    Calls Tryd.prog 9 #[.pointer (some ⟨g, 0, none⟩)] w fun e w' => ∃ v : Int, e = .returned (.int .i64 v) ∧ (-20000 ≤ v ∧ v ≤ 30000) ∧ Rd w' base g (M + 4) ∧ Chg g (g + 1) w w' := by
  go_enter Tryd.func9, Tryd.ntmps9
  go_wp2_with fail
  refine (pick_any base g M 256 _ h (by omega) (by omega) (by omega)).mono ?_
  rintro e w1 ⟨a, rfl, ⟨ha, hb⟩, r1, c1⟩
  go_wp2_with fail
  refine (pick_any base g (M + 1) 30 _ r1 (by omega) (by omega) (by omega)).mono ?_
  rintro e w2 ⟨b, rfl, ⟨hc, hd⟩, r2, c2⟩
  have hab : 0 ≤ a * (1 + b) ∧ a * (1 + b) ≤ 7650 := by
    have h1 := Int.mul_nonneg ha (show 0 ≤ 1 + b by omega)
    have h2 := Int.mul_le_mul (show a ≤ 255 by omega) (show 1 + b ≤ 30 by omega) (by omega) (by omega)
    omega
  go_wp2_with fail
  refine (pick_any base g (M + 1 + 1) 40 _ r2 (by omega) (by omega) (by omega)).mono ?_
  rintro e w3 ⟨p, rfl, ⟨hp, hq⟩, r3, c3⟩
  go_wp2_with fail
  refine (pick_any base g (M + 1 + 1 + 1) 30 _ r3 (by omega) (by omega) (by omega)).mono ?_
  rintro e w4 ⟨q, rfl, ⟨hs, ht⟩, r4, c4⟩
  generalize a * (1 + b) = ab at *
  go_wp2
  go_ret
  exact ⟨_, rfl, by omega, r4, ((c1.trans c2).trans c3).trans c4⟩
set_option maxHeartbeats 2000000 in
theorem drawTipOf_any (A : Option Addr) (c : Nat) (xs : List Int) (w : World) (h : RV w w.heap.size A (bts xs)) (hc : xs.length ≤ c) (hl : xs.length ≤ 1048576) (hb : ∀ x ∈ xs, 0 ≤ x ∧ x ≤ 255) :
    Calls Tryd.prog 4 #[.slice A xs.length c] w fun e w' => ∃ a b : Int, e = .returned (.tuple #[.int .i64 a, .int .i64 b]) ∧ (-20000 ≤ a ∧ a ≤ 30000 ∧ -1 ≤ b ∧ b ≤ 101) ∧ Below w.heap.size w w' := by
  have HO := Lib.hid (open_any A c xs w h hc hl hb)
  clear hb
  go_enter Tryd.func4, Tryd.ntmps4
  go_wp2_with fail
  refine HO.out.mono ?_
  rintro e w1 ⟨g, rfl, r1, b1⟩
  have hg := r1.lt
  go_wp2_with fail
  refine (l20Sum_any w.heap.size g 0 _ r1 (by omega)).mono ?_
  rintro e w2 ⟨a, rfl, ⟨h1, h2⟩, r2, c2⟩
  go_wp2_with fail
  refine (pick_any w.heap.size g (0 + 4) 103 _ r2 (by omega) (by omega) (by omega)).mono ?_
  rintro e w3 ⟨b, rfl, ⟨h3, h4⟩, r3, c3⟩
  go_wp2
  go_ret2
  exact ⟨_, _, rfl, by omega, Below.chg (Below.chg b1 c2 hg.1) c3 hg.1⟩
set_option maxHeartbeats 1000000 in
theorem walk_fnTipOf (w : World) (A : Option Addr) (c : Nat) (xs : List Int) (h : RV w w.heap.size A (bts xs)) (hc : xs.length ≤ c) (hm : c ≤ maxLen) (hb : ∀ x ∈ xs, 0 ≤ x ∧ x ≤ 255) :
    Calls Tryd.prog 3 #[.slice A xs.length c] w fun e w' => e = .returned (.bool true) ∧ Below w.heap.size w w' := by
  unfold maxLen at hm
  by_cases hl : xs.length ≤ 1048576
  · have HD := Lib.hid (drawTipOf_any A c xs w h hc hl hb)
    clear hb h
    go_enter Tryd.func3, Tryd.ntmps3
    go_wp2_with fail
    refine HD.out.mono ?_
    rintro e w1 ⟨a, b, rfl, ⟨a1, a2, b1, b2⟩, bel⟩
    go_wp2_with fail
    refine (impl_tip a b _).mono ?_
    rintro e w' ⟨rfl, rfl⟩
    go_wp2_with fail
    refine (spec_tip a b _).mono ?_
    rintro e w' ⟨rfl, rfl⟩
    by_cases hin : 0 ≤ a ∧ a ≤ 9999 ∧ 0 ≤ b ∧ b ≤ 100
    · obtain ⟨h1, h2, h3, h4⟩ := hin
      obtain ⟨h5, h6⟩ := tip_bounds a b h1 h2 h3 h4
      have hx : 0 ≤ tipF a b ∧ a * b ≤ 100 * tipF a b ∧ 100 * tipF a b < a * b + 100 ∧ tipF a b ≤ 10000 := by
        rw [tipF, if_pos ⟨h1, h2, h3, h4⟩]; omega
      have e1 : Hid (tipF a 100 = a) := by rw [Hid, tipF, if_pos (by omega)]; omega
      have e2 : Hid (tipF a 0 = 0) := by rw [Hid, tipF, if_pos (by omega)]; omega
      obtain ⟨hx1, hx2, hx3, hx4⟩ := hx
      generalize tipF a b = x at *
      obtain ⟨ab, hab⟩ : ∃ ab, a * b = ab := ⟨_, rfl⟩
      rw [hab] at h5 h6 hx2 hx3
      have hd1 : decide (ab ≤ 100 * x) = true := decide_eq_true hx2
      have hd2 : decide (100 * x < ab + 100) = true := decide_eq_true hx3
      go_wp2_with fail
      refine (impl_tip a 100 _).mono ?_
      rintro e w' ⟨rfl, rfl⟩
      rw [e1.out]
      go_wp2_with fail
      refine (impl_tip a 0 _).mono ?_
      rintro e w' ⟨rfl, rfl⟩
      rw [e2.out]
      go_wp2
      go_ret
      exact ⟨rfl, bel⟩
    · have hx : Hid (tipF a b = -1) := by rw [Hid, tipF, if_neg hin]
      clear hin
      rw [hx.out]
      go_wp2_with fail
      refine (alive_any _).mono ?_
      rintro e w2 ⟨rfl, b2⟩
      go_wp2
      go_ret
      exact ⟨rfl, below_step bel b2⟩
  · go_enter Tryd.func3, Tryd.ntmps3
    go_wp2
    go_ret
    exact ⟨rfl, Below.refl _ _⟩
end Go.Proofs.YtnopgmgoehenpaaDoor
