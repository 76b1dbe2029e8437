/- The draws of burners. -/
import Derived.Test.YtjicpdleacnlaaaDoorDrawS
import Derived.Test.YtjicpdleacnlaaaDoorAlive
set_option linter.unusedVariables false
set_option linter.unusedSimpArgs false
namespace Go.Proofs.YtjicpdleacnlaaaDoor
open Go.ChangeShapes Go.WideShapes Go.ChangeAt Go.RowKit

theorem max1_bounds (m : Int) (h : -2 ≤ m ∧ m ≤ 6) : 1 ≤ max m 1 ∧ max m 1 ≤ 6 := by omega
set_option maxRecDepth 20000 in
set_option maxHeartbeats 2000000 in
theorem l20Burners_any (base g M : Nat) (w : World) (h : Rd w base g M) (hM : M ≤ 900000) :
    Calls Tryd.prog 57 #[.pointer (some ⟨g, 0, none⟩)] w fun e w' => ∃ m : Int, e = .returned (.int .i64 m) ∧ (-2 ≤ m ∧ m ≤ 6) ∧ Rd w' base g (M + 10) ∧ Chg g (g + 1) w w' := by
  have hg := h.lt
  go_enter Tryd.func57, Tryd.ntmps57
  go_wp2_with fail
  refine (pick_any base g M 3 _ h (by omega) (by omega) (by omega)).mono ?_
  rintro e w1 ⟨a, rfl, ⟨ha0, ha1⟩, r1, c1⟩
  go_wp2_with fail
  refine (pick_any base g _ 30 _ r1 (by omega) (by omega) (by omega)).mono ?_
  rintro e w2 ⟨q1, rfl, ⟨hq1, hq2⟩, r2, c2⟩
  obtain ⟨d1, hd1, hd10, hd11⟩ : ∃ d : Int, q1.tdiv 29 = d ∧ 0 ≤ d ∧ d ≤ 1 := ⟨_, rfl, by rw [Int.tdiv_eq_ediv_of_nonneg hq1]; omega, by rw [Int.tdiv_eq_ediv_of_nonneg hq1]; omega⟩
  go_wp2_with fail
  refine (pick_any base g _ 30 _ r2 (by omega) (by omega) (by omega)).mono ?_
  rintro e w3 ⟨q2, rfl, ⟨hq3, hq4⟩, r3, c3⟩
  obtain ⟨d2, hd2, hd20, hd21⟩ : ∃ d : Int, q2.tdiv 29 = d ∧ 0 ≤ d ∧ d ≤ 1 := ⟨_, rfl, by rw [Int.tdiv_eq_ediv_of_nonneg hq3]; omega, by rw [Int.tdiv_eq_ediv_of_nonneg hq3]; omega⟩
  go_wp2
  go_ret
  exact ⟨_, rfl, by omega, r3.more (by omega), (c1.trans c2).trans c3⟩
set_option maxRecDepth 20000 in
set_option maxHeartbeats 4000000 in
theorem l20Burn_any (base g M : Nat) (w : World) (h : Rd w base g M) (hM : M ≤ 800000) :
    Calls Tryd.prog 48 #[.pointer (some ⟨g, 0, none⟩)] w fun e w' => ∃ (v v2 : Value) (xs on : List Int) (m : Int), e = .returned (.tuple #[v, .int .i64 m, v2]) ∧ OI w' w.heap.size v xs ∧ OI w' w.heap.size v2 on ∧ (xs.length ≤ 100 ∧ on.length ≤ 101) ∧ (-2 ≤ m ∧ m ≤ 6) ∧ Rd w' base g (M + 400) ∧ Chg g (g + 1) w w' := by
  have hg := h.lt
  go_enter Tryd.func48, Tryd.ntmps48
  go_wp2_with fail
  refine (l20Spans_any base g M 12 _ h (by omega) (by omega) (by omega)).mono ?_
  rintro e w2 ⟨v, xs, rfl, o, hl, r2, c2⟩
  have hs2 := c2.size
  have hg2 := r2.lt
  obtain ⟨A2, cc2, rfl, -⟩ := own_form o
  go_wp2_with fail
  refine (l20Burners_any base g _ _ r2 (by omega)).mono ?_
  rintro e w3 ⟨m, rfl, hm, r3, c3⟩
  have O3 := Lib.hid (show OI w3 w.heap.size (.slice A2 xs.length cc2) xs from own_chg o c3 hg.2)
  have C3 := c2.trans c3
  have hs3 := C3.size
  have hmx := max1_bounds m hm
  have r4 := r3.below (below_al (Below.refl _ _) (.cells #[] 3))
  have C4 : Chg g (g + 1) w3 (w3.alloc (.cells #[] 3)) := (Chg.refl g (g + 1) w3).and_al _
  have O1 : (w3.alloc (.cells #[] 3)).ownsRow w3.heap.size 3 1 (.slice (some ⟨w3.heap.size, 0, none⟩) 0 0) 0 [] := own_empty w3 _ 1 _ (Nat.le_refl _)
  have hg3 := r3.lt
  clear o c2 c3 r2 r3
  go_wp2
  go_loopw [7, 8] (fun u i wr => ∃ (k : Nat) (v0 : Value) (on : List Int), k ≤ xs.length ∧ v0 = u ∧ i = .int .i64 (k : Int) ∧ on.length = k ∧ OI wr w3.heap.size v0 on ∧ Rd wr base g (M + 110 + k) ∧ Chg g (g + 1) w3 wr) (fun _ i _ => xs.length - (intOf i).toNat)
  case atStart => exact ⟨0, _, [], Nat.zero_le _, rfl, rfl, rfl, O1, r4.more (by omega), C4⟩
  case round =>
    clear O1 r4 C4
    obtain ⟨k, u, on, hk, rfl, rfl, hon, hO, hR, hC⟩ := hrel
    have hs := hC.size
    by_cases hlt : k < xs.length
    · go_wp2_with fail
      refine (pick_any base g _ (max m 1) _ hR (by omega) (by omega) (by omega)).mono ?_
      rintro e w5 ⟨y, rfl, ⟨hy0, hy1⟩, r5, c5⟩
      have hO5 : w5.ownsRow w3.heap.size 3 1 u on.length (ints on) := own_chg hO c5 hg3.2
      have hC5 := hC.trans c5
      clear hO hR c5
      go_wp2_with (at_builtin; refine wpList_app _ rfl _ _ 23 rfl int_EId w3.heap.size u on.length _ rfl (hO5.alloc _) (some ⟨_, 0, none⟩) 1 1 [.int .i64 y] rfl rfl (rv_new _ _ _) (one1 _) (le_max (by omega)) (by omega) (hC5.and_al _).size ?_; intro v6 w6 hO6 hg6 _)
      have b6 : Below w3.heap.size w5 w6 := below_app' hC5.size (hO5.alloc _) hg6
      go_roundw
      case rel =>
        have e : (on ++ [y]).length = on.length + 1 := by simp
        exact ⟨k + 1, _, on ++ [y], by omega, rfl, by go_num, by omega, oi_pushD hO6, (r5.belowB b6 hg3.2).more (by omega), hC5.and_below b6⟩
      case measure => (simp [intOf]) <;> omega
    · obtain rfl : k = xs.length := by omega
      obtain ⟨A5, c5', rfl, -⟩ := own_form hO
      have hon1 : on.length ≤ xs.length := by omega
      have hon2 : xs.length ≤ on.length := by omega
      clear hon
      have HO := Lib.hid hO
      have hRx := hR.more (show M + 110 + xs.length ≤ M + 250 by omega)
      clear hO hR
      go_wp2_with fail
      refine (odd_any base g (M + 250) 12 _ hRx (by omega) (by omega) (by omega)).mono ?_
      rintro e w7 ⟨bb, rfl, r7, c7⟩
      have HO7 := Lib.hid (show w7.ownsRow w3.heap.size 3 1 (.slice A5 on.length c5') on.length (ints on) from own_chg HO.out c7 hg3.2)
      have hC7 := hC.trans c7
      have hs7 := hC7.size
      clear c7
      cases bb
      · have OX := Lib.hid (show OI w7 w.heap.size (.slice A2 xs.length cc2) xs from own_chg O3.out hC7 hg.2)
        have OY := Lib.hid (OI.mono (show OI w7 w3.heap.size (.slice A5 on.length c5') on from HO7.out) hs3)
        go_wp2
        go_ret3
        exact ⟨_, _, xs, on, m, rfl, OX.out, OY.out, by omega, hm, r7.more (by omega), C3.trans hC7⟩
      · go_wp2_with (at_builtin; refine wpList_app _ rfl _ _ 23 rfl int_EId w3.heap.size (.slice A5 on.length c5') on.length _ rfl (HO7.out.alloc _) (some ⟨_, 0, none⟩) 1 1 [.int .i64 m] rfl rfl (rv_new _ _ _) (one1 _) (le_max (by omega)) (by omega) (hC7.and_al _).size ?_; intro v8 w8 hO8 hg8 _)
        have b8 : Below w3.heap.size w7 w8 := below_app' hC7.size (HO7.out.alloc _) hg8
        have hC8 := hC7.and_below b8
        have OX := Lib.hid (show OI w8 w.heap.size (.slice A2 xs.length cc2) xs from own_chg O3.out hC8 hg.2)
        have OY := Lib.hid (OI.mono (oi_pushD hO8) hs3)
        clear hO8 hg8
        try go_wp2
        go_ret3
        exact ⟨_, _, xs, on ++ [m], m, rfl, OX.out, OY.out, by simp; omega, hm, (r7.belowB b8 hg3.2).more (by omega), C3.trans hC8⟩

set_option maxRecDepth 20000 in
set_option maxHeartbeats 2000000 in
theorem drawBurnOk_any (A : Option Addr) (c : Nat) (xs : List Int) (w : World) (h : RV w w.heap.size A (bts xs)) (hc : xs.length ≤ c) (hl : xs.length ≤ 1048576) (hb : ∀ x ∈ xs, 0 ≤ x ∧ x ≤ 255) :
    Calls Tryd.prog 13 #[.slice A xs.length c] w fun e w' => ∃ (v v2 : Value) (xs on : List Int) (m : Int), e = .returned (.tuple #[v, .int .i64 m, v2]) ∧ OI w' w.heap.size v xs ∧ OI w' w.heap.size v2 on ∧ (xs.length ≤ 100 ∧ on.length ≤ 101) ∧ (-2 ≤ m ∧ m ≤ 6) ∧ Below w.heap.size w w' := by
  have HO := Lib.hid (open_any A c xs w h hc hl hb)
  clear hb h
  go_enter Tryd.func13, Tryd.ntmps13
  go_wp2_with fail
  refine HO.out.mono ?_
  rintro e w1 ⟨g, rfl, r1, b1⟩
  have hg := r1.lt
  have hs1 := b1.size
  go_wp2_with fail
  refine (l20Burn_any w.heap.size g 0 _ r1 (by omega)).mono ?_
  rintro e w2 ⟨v, v2, ys, on, m, rfl, o, o2, hl, hm, r2, c2⟩
  have O1 := Lib.hid (OI.mono o hs1)
  have O2 := Lib.hid (OI.mono o2 hs1)
  clear o o2
  go_wp2
  go_ret3
  exact ⟨v, v2, ys, on, m, rfl, O1.out, O2.out, hl, hm, Below.chg b1 c2 hg.1⟩

set_option maxRecDepth 20000 in
set_option maxHeartbeats 2000000 in
theorem drawBurnEnd_any (A : Option Addr) (c : Nat) (xs : List Int) (w : World) (h : RV w w.heap.size A (bts xs)) (hc : xs.length ≤ c) (hl : xs.length ≤ 1048576) (hb : ∀ x ∈ xs, 0 ≤ x ∧ x ≤ 255) :
    Calls Tryd.prog 17 #[.slice A xs.length c] w fun e w' => ∃ (v v2 : Value) (xs on : List Int) (m : Int), e = .returned (.tuple #[v, .int .i64 m, v2]) ∧ OI w' w.heap.size v xs ∧ OI w' w.heap.size v2 on ∧ (xs.length ≤ 100 ∧ on.length ≤ 101) ∧ (-2 ≤ m ∧ m ≤ 6) ∧ Below w.heap.size w w' := by
  have HO := Lib.hid (open_any A c xs w h hc hl hb)
  clear hb h
  go_enter Tryd.func17, Tryd.ntmps17
  go_wp2_with fail
  refine HO.out.mono ?_
  rintro e w1 ⟨g, rfl, r1, b1⟩
  have hg := r1.lt
  have hs1 := b1.size
  go_wp2_with fail
  refine (l20Burn_any w.heap.size g 0 _ r1 (by omega)).mono ?_
  rintro e w2 ⟨v, v2, ys, on, m, rfl, o, o2, hl, hm, r2, c2⟩
  have O1 := Lib.hid (OI.mono o hs1)
  have O2 := Lib.hid (OI.mono o2 hs1)
  clear o o2
  go_wp2
  go_ret3
  exact ⟨v, v2, ys, on, m, rfl, O1.out, O2.out, hl, hm, Below.chg b1 c2 hg.1⟩

set_option maxRecDepth 20000 in
set_option maxHeartbeats 2000000 in
theorem drawBurnList_any (A : Option Addr) (c : Nat) (xs : List Int) (w : World) (h : RV w w.heap.size A (bts xs)) (hc : xs.length ≤ c) (hl : xs.length ≤ 1048576) (hb : ∀ x ∈ xs, 0 ≤ x ∧ x ≤ 255) :
    Calls Tryd.prog 22 #[.slice A xs.length c] w fun e w' => ∃ (v : Value) (xs : List Int) (m : Int), e = .returned (.tuple #[v, .int .i64 m]) ∧ OI w' w.heap.size v xs ∧ xs.length ≤ 100 ∧ (-2 ≤ m ∧ m ≤ 6) ∧ Below w.heap.size w w' := by
  have HO := Lib.hid (open_any A c xs w h hc hl hb)
  clear hb h
  go_enter Tryd.func22, Tryd.ntmps22
  go_wp2_with fail
  refine HO.out.mono ?_
  rintro e w1 ⟨g, rfl, r1, b1⟩
  have hg := r1.lt
  have hs1 := b1.size
  go_wp2_with fail
  refine (l20Spans_any w.heap.size g 0 9 _ r1 (by omega) (by omega) (by omega)).mono ?_
  rintro e w2 ⟨v, ys, rfl, o, hl, r2, c2⟩
  have hg2 := r2.lt
  go_wp2_with fail
  refine (l20Burners_any w.heap.size g _ _ r2 (by omega)).mono ?_
  rintro e w3 ⟨m, rfl, hm, r3, c3⟩
  have O1 := Lib.hid (OI.mono (show OI w3 w1.heap.size v ys from own_chg o c3 hg.2) hs1)
  clear o
  go_wp2
  go_ret2
  exact ⟨v, ys, m, rfl, O1.out, hl, hm, Below.chg (Below.chg b1 c2 hg.1) c3 hg.1⟩

set_option maxHeartbeats 2000000 in
theorem drawBurnLeast_any (A : Option Addr) (c : Nat) (xs : List Int) (w : World) (h : RV w w.heap.size A (bts xs)) (hc : xs.length ≤ c) (hl : xs.length ≤ 1048576) (hb : ∀ x ∈ xs, 0 ≤ x ∧ x ≤ 255) :
    Calls Tryd.prog 27 #[.slice A xs.length c] w fun e w' => ∃ (v : Value) (xs : List Int) (m : Int), e = .returned (.tuple #[v, .int .i64 m]) ∧ OI w' w.heap.size v xs ∧ xs.length ≤ 100 ∧ (-2 ≤ m ∧ m ≤ 6) ∧ Below w.heap.size w w' := by
  have HO := Lib.hid (drawBurnList_any A c xs w h hc hl hb)
  clear hb h
  go_enter Tryd.func27, Tryd.ntmps27
  go_wp2_with fail
  refine HO.out.mono ?_
  rintro e w1 ⟨v, ys, m, rfl, o, h2⟩
  have O1 := Lib.hid o
  clear o
  go_wp2
  go_ret2
  exact ⟨v, ys, m, rfl, O1.out, h2⟩

end Go.Proofs.YtjicpdleacnlaaaDoor
