/- The draws of spans, dishes and orders for the laws. -/
import Derived.Test.YtnehedcelfpegaaDoorDrawS
import Derived.Test.YtnehedcelfpegaaDoorDrawD
import Derived.Test.YtnehedcelfpegaaDoorDrawH
import Derived.Test.YtnehedcelfpegaaDoorAlive
set_option linter.unusedVariables false
set_option linter.unusedSimpArgs false
namespace Go.Proofs.YtnehedcelfpegaaDoor
open Go.ChangeShapes Go.WideShapes Go.ChangeAt Go.RowKit

def DrawIlP (w : World) (e : Ending) (w' : World) : Prop := ∃ (v : Value) (os : List Int), e = .returned v ∧ OI w' w.heap.size v os ∧ os.length ≤ 100 ∧ Below w.heap.size w w'
def DrawDlP (w : World) (e : Ending) (w' : World) : Prop := ∃ (v : Value) (os : List Dsh), e = .returned v ∧ OD w' w.heap.size v os ∧ os.length ≤ 100 ∧ Below w.heap.size w w'

set_option maxRecDepth 20000 in
set_option maxHeartbeats 2000000 in
theorem drawSpansValid_any (A : Option Addr) (c : Nat) (xs : List Int) (w : World) (h : RV w w.heap.size A (bts xs)) (hc : xs.length ≤ c) (hl : xs.length ≤ 1048576) (hb : ∀ x ∈ xs, 0 ≤ x ∧ x ≤ 255) :
    Calls Tryd.prog 12 #[.slice A xs.length c] w (DrawIlP w) := by
  have HO := Lib.hid (open_any A c xs w h hc hl hb)
  clear hb h
  go_enter Tryd.func12, Tryd.ntmps12
  go_wp2_with fail
  refine HO.out.mono ?_
  rintro e w1 ⟨g, rfl, r1, b1⟩
  have hg := r1.lt
  have hs1 := b1.size
  go_wp2_with fail
  refine (l20Spans_any w.heap.size g 0 2 _ r1 (by omega) (by omega) (by omega)).mono ?_
  rintro e w2 ⟨v, os, rfl, o, hl, r2, c2⟩
  go_wp2
  go_ret
  exact ⟨v, os, rfl, OI.mono o b1.size, hl, Below.chg b1 c2 hg.1⟩

set_option maxRecDepth 20000 in
set_option maxHeartbeats 2000000 in
theorem drawTogetherBest_any (A : Option Addr) (c : Nat) (xs : List Int) (w : World) (h : RV w w.heap.size A (bts xs)) (hc : xs.length ≤ c) (hl : xs.length ≤ 1048576) (hb : ∀ x ∈ xs, 0 ≤ x ∧ x ≤ 255) :
    Calls Tryd.prog 26 #[.slice A xs.length c] w (DrawIlP w) := by
  have HO := Lib.hid (open_any A c xs w h hc hl hb)
  clear hb h
  go_enter Tryd.func26, Tryd.ntmps26
  go_wp2_with fail
  refine HO.out.mono ?_
  rintro e w1 ⟨g, rfl, r1, b1⟩
  have hg := r1.lt
  have hs1 := b1.size
  go_wp2_with fail
  refine (l20Spans_any w.heap.size g 0 9 _ r1 (by omega) (by omega) (by omega)).mono ?_
  rintro e w2 ⟨v, os, rfl, o, hl, r2, c2⟩
  go_wp2
  go_ret
  exact ⟨v, os, rfl, OI.mono o b1.size, hl, Below.chg b1 c2 hg.1⟩

set_option maxRecDepth 20000 in
set_option maxHeartbeats 2000000 in
theorem drawDishesValid_any (A : Option Addr) (c : Nat) (xs : List Int) (w : World) (h : RV w w.heap.size A (bts xs)) (hc : xs.length ≤ c) (hl : xs.length ≤ 1048576) (hb : ∀ x ∈ xs, 0 ≤ x ∧ x ≤ 255) :
    Calls Tryd.prog 16 #[.slice A xs.length c] w (DrawDlP w) := by
  have HO := Lib.hid (open_any A c xs w h hc hl hb)
  clear hb h
  go_enter Tryd.func16, Tryd.ntmps16
  go_wp2_with fail
  refine HO.out.mono ?_
  rintro e w1 ⟨g, rfl, r1, b1⟩
  have hg := r1.lt
  have hs1 := b1.size
  go_wp2_with fail
  refine (l20Dishes_any w.heap.size g 0 2 _ r1 (by omega) (by omega) (by omega)).mono ?_
  rintro e w2 ⟨v, os, rfl, o, hl, r2, c2⟩
  go_wp2
  go_ret
  exact ⟨v, os, rfl, OD.mono o b1.size, hl, Below.chg b1 c2 hg.1⟩

set_option maxRecDepth 20000 in
set_option maxHeartbeats 2000000 in
theorem drawFlowBest_any (A : Option Addr) (c : Nat) (xs : List Int) (w : World) (h : RV w w.heap.size A (bts xs)) (hc : xs.length ≤ c) (hl : xs.length ≤ 1048576) (hb : ∀ x ∈ xs, 0 ≤ x ∧ x ≤ 255) :
    Calls Tryd.prog 33 #[.slice A xs.length c] w (DrawDlP w) := by
  have HO := Lib.hid (open_any A c xs w h hc hl hb)
  clear hb h
  go_enter Tryd.func33, Tryd.ntmps33
  go_wp2_with fail
  refine HO.out.mono ?_
  rintro e w1 ⟨g, rfl, r1, b1⟩
  have hg := r1.lt
  have hs1 := b1.size
  go_wp2_with fail
  refine (l20Dishes_any w.heap.size g 0 9 _ r1 (by omega) (by omega) (by omega)).mono ?_
  rintro e w2 ⟨v, os, rfl, o, hl, r2, c2⟩
  go_wp2
  go_ret
  exact ⟨v, os, rfl, OD.mono o b1.size, hl, Below.chg b1 c2 hg.1⟩

set_option maxRecDepth 20000 in
set_option maxHeartbeats 2000000 in
theorem drawFlowLeast_any (A : Option Addr) (c : Nat) (xs : List Int) (w : World) (h : RV w w.heap.size A (bts xs)) (hc : xs.length ≤ c) (hl : xs.length ≤ 1048576) (hb : ∀ x ∈ xs, 0 ≤ x ∧ x ≤ 255) :
    Calls Tryd.prog 40 #[.slice A xs.length c] w (DrawDlP w) := by
  have HO := Lib.hid (open_any A c xs w h hc hl hb)
  clear hb h
  go_enter Tryd.func40, Tryd.ntmps40
  go_wp2_with fail
  refine HO.out.mono ?_
  rintro e w1 ⟨g, rfl, r1, b1⟩
  have hg := r1.lt
  have hs1 := b1.size
  go_wp2_with fail
  refine (l20Dishes_any w.heap.size g 0 9 _ r1 (by omega) (by omega) (by omega)).mono ?_
  rintro e w2 ⟨v, os, rfl, o, hl, r2, c2⟩
  go_wp2
  go_ret
  exact ⟨v, os, rfl, OD.mono o b1.size, hl, Below.chg b1 c2 hg.1⟩

set_option maxRecDepth 20000 in
set_option maxHeartbeats 2000000 in
theorem drawOrderOk_any (A : Option Addr) (c : Nat) (xs : List Int) (w : World) (h : RV w w.heap.size A (bts xs)) (hc : xs.length ≤ c) (hl : xs.length ≤ 1048576) (hb : ∀ x ∈ xs, 0 ≤ x ∧ x ≤ 255) :
    Calls Tryd.prog 19 #[.slice A xs.length c] w fun e w' => ∃ (v : Value) (os : List Int) (m : Nat), e = .returned (.tuple #[v, .int .i64 m]) ∧ OI w' w.heap.size v os ∧ (os.length ≤ 100 ∧ m ≤ 100) ∧ Below w.heap.size w w' := by
  have HO := Lib.hid (open_any A c xs w h hc hl hb)
  clear hb h
  go_enter Tryd.func19, Tryd.ntmps19
  go_wp2_with fail
  refine HO.out.mono ?_
  rintro e w1 ⟨g, rfl, r1, b1⟩
  have hg := r1.lt
  have hs1 := b1.size
  go_wp2_with fail
  refine (pick_any w.heap.size g 0 7 _ r1 (by omega) (by omega) (by omega)).mono ?_
  rintro e w2 ⟨m', rfl, ⟨hm0, hm7⟩, r2, c2⟩
  obtain ⟨m, rfl⟩ : ∃ m : Nat, m' = m := ⟨m'.toNat, by omega⟩
  have b2 := Below.chg b1 c2 hg.1
  have hs2 := b2.size
  go_wp2_with fail
  refine (l20Shuffle_any w.heap.size g _ m 3 _ r2 (by omega) (by omega) (by omega) (by omega)).mono ?_
  rintro e w3 ⟨v, os, rfl, o, hol, r3, c3⟩
  have b3 := Below.chg b2 c3 hg.1
  have hg3 := r2.lt
  go_wp2_with fail
  refine (pick_any w.heap.size g _ 12 _ r3 (by omega) (by omega) (by omega)).mono ?_
  rintro e w4 ⟨q, rfl, ⟨hq0, hq1⟩, r4, c4⟩
  obtain ⟨d, hd, hd0, hd1⟩ : ∃ d : Int, q.tdiv 11 = d ∧ 0 ≤ d ∧ d ≤ 1 := ⟨_, rfl, by rw [Int.tdiv_eq_ediv_of_nonneg hq0]; omega, by rw [Int.tdiv_eq_ediv_of_nonneg hq0]; omega⟩
  obtain ⟨t, ht⟩ : ∃ t : Nat, (m : Int) + d = t := ⟨((m : Int) + d).toNat, by omega⟩
  have hO := OI.mono (show OI w4 w2.heap.size v os from own_chg o c4 hg3.2) hs2
  go_wp2
  go_ret2
  exact ⟨v, os, t, by rw [← ht]; rfl, hO, by omega, Below.chg b3 c4 hg.1⟩

set_option maxRecDepth 20000 in
set_option maxHeartbeats 2000000 in
theorem l20Flow_any (base g M : Nat) (w : World) (h : Rd w base g M) (hM : M ≤ 800000) :
    Calls Tryd.prog 51 #[.pointer (some ⟨g, 0, none⟩)] w fun e w' => ∃ (v v2 : Value) (ds : List Dsh) (os : List Int), e = .returned (.tuple #[v, v2]) ∧ OD w' w.heap.size v ds ∧ OI w' w.heap.size v2 os ∧ (ds.length ≤ 100 ∧ os.length ≤ 101) ∧ Rd w' base g (M + 300) ∧ Chg g (g + 1) w w' := by
  have hg := h.lt
  go_enter Tryd.func51, Tryd.ntmps51
  go_wp2_with fail
  refine (l20Dishes_any base g M 12 _ h (by omega) (by omega) (by omega)).mono ?_
  rintro e w2 ⟨v, ds, rfl, o, hl, r2, c2⟩
  have hs2 := c2.size
  have hg2 := r2.lt
  obtain ⟨A2, cc2, rfl, -⟩ := OD.form o
  go_wp2_with fail
  refine (l20Shuffle_any base g _ ds.length 12 _ r2 (by omega) hl (by omega) (by omega)).mono ?_
  rintro e w3 ⟨v3, os, rfl, o3, hol, r3, c3⟩
  have O2 := Lib.hid (show OD w3 w.heap.size (.slice A2 ds.length cc2) ds from own_chg o c3 hg.2)
  have O3 := Lib.hid (OI.mono o3 hs2)
  clear o o3
  go_wp2
  go_ret2
  exact ⟨_, v3, ds, os, rfl, O2.out, O3.out, by omega, r3.more (by omega), c2.trans c3⟩

set_option maxRecDepth 20000 in
set_option maxHeartbeats 2000000 in
theorem drawFlowEnds_any (A : Option Addr) (c : Nat) (xs : List Int) (w : World) (h : RV w w.heap.size A (bts xs)) (hc : xs.length ≤ c) (hl : xs.length ≤ 1048576) (hb : ∀ x ∈ xs, 0 ≤ x ∧ x ≤ 255) :
    Calls Tryd.prog 22 #[.slice A xs.length c] w fun e w' => ∃ (v v2 : Value) (ds : List Dsh) (os : List Int), e = .returned (.tuple #[v, v2]) ∧ OD w' w.heap.size v ds ∧ OI w' w.heap.size v2 os ∧ (ds.length ≤ 100 ∧ os.length ≤ 101) ∧ Below w.heap.size w w' := by
  have HO := Lib.hid (open_any A c xs w h hc hl hb)
  clear hb h
  go_enter Tryd.func22, Tryd.ntmps22
  go_wp2_with fail
  refine HO.out.mono ?_
  rintro e w1 ⟨g, rfl, r1, b1⟩
  have hg := r1.lt
  have hs1 := b1.size
  go_wp2_with fail
  refine (l20Flow_any w.heap.size g 0 _ r1 (by omega)).mono ?_
  rintro e w2 ⟨v, v2, ds, os, rfl, o, o2, hl, r2, c2⟩
  have O1 := Lib.hid (OD.mono o hs1)
  have O2 := Lib.hid (OI.mono o2 hs1)
  clear o o2
  go_wp2
  go_ret2
  exact ⟨v, v2, ds, os, rfl, O1.out, O2.out, hl, Below.chg b1 c2 hg.1⟩

set_option maxRecDepth 20000 in
set_option maxHeartbeats 2000000 in
theorem drawFlowEnd_any (A : Option Addr) (c : Nat) (xs : List Int) (w : World) (h : RV w w.heap.size A (bts xs)) (hc : xs.length ≤ c) (hl : xs.length ≤ 1048576) (hb : ∀ x ∈ xs, 0 ≤ x ∧ x ≤ 255) :
    Calls Tryd.prog 37 #[.slice A xs.length c] w fun e w' => ∃ (v v2 : Value) (ds : List Dsh) (os : List Int), e = .returned (.tuple #[v, v2]) ∧ OD w' w.heap.size v ds ∧ OI w' w.heap.size v2 os ∧ (ds.length ≤ 100 ∧ os.length ≤ 101) ∧ Below w.heap.size w w' := by
  have HO := Lib.hid (open_any A c xs w h hc hl hb)
  clear hb h
  go_enter Tryd.func37, Tryd.ntmps37
  go_wp2_with fail
  refine HO.out.mono ?_
  rintro e w1 ⟨g, rfl, r1, b1⟩
  have hg := r1.lt
  have hs1 := b1.size
  go_wp2_with fail
  refine (l20Flow_any w.heap.size g 0 _ r1 (by omega)).mono ?_
  rintro e w2 ⟨v, v2, ds, os, rfl, o, o2, hl, r2, c2⟩
  have O1 := Lib.hid (OD.mono o hs1)
  have O2 := Lib.hid (OI.mono o2 hs1)
  clear o o2
  go_wp2
  go_ret2
  exact ⟨v, v2, ds, os, rfl, O1.out, O2.out, hl, Below.chg b1 c2 hg.1⟩

set_option maxRecDepth 20000 in
set_option maxHeartbeats 2000000 in
theorem drawTogetherWaits_any (A : Option Addr) (c : Nat) (xs : List Int) (w : World) (h : RV w w.heap.size A (bts xs)) (hc : xs.length ≤ c) (hl : xs.length ≤ 1048576) (hb : ∀ x ∈ xs, 0 ≤ x ∧ x ≤ 255) :
    Calls Tryd.prog 29 #[.slice A xs.length c] w fun e w' => ∃ (v v2 : Value) (xs os : List Int), e = .returned (.tuple #[v, v2]) ∧ OI w' w.heap.size v xs ∧ OI w' w.heap.size v2 os ∧ (xs.length ≤ 100 ∧ os.length ≤ 101) ∧ Below w.heap.size w w' := by
  have HO := Lib.hid (open_any A c xs w h hc hl hb)
  clear hb h
  go_enter Tryd.func29, Tryd.ntmps29
  go_wp2_with fail
  refine HO.out.mono ?_
  rintro e w1 ⟨g, rfl, r1, b1⟩
  have hg := r1.lt
  have hs1 := b1.size
  go_wp2_with fail
  refine (l20Spans_any w.heap.size g 0 12 _ r1 (by omega) (by omega) (by omega)).mono ?_
  rintro e w2 ⟨v, ys, rfl, o, hl, r2, c2⟩
  have b2 := Below.chg b1 c2 hg.1
  have hs2 := c2.size
  have hg2 := r2.lt
  obtain ⟨A2, cc2, rfl, -⟩ := OI.form o
  go_wp2_with fail
  refine (l20Shuffle_any w.heap.size g _ ys.length 12 _ r2 (by omega) hl (by omega) (by omega)).mono ?_
  rintro e w3 ⟨v3, os, rfl, o3, hol, r3, c3⟩
  have O2 := Lib.hid (OI.mono (show OI w3 w1.heap.size (.slice A2 ys.length cc2) ys from own_chg o c3 hg.2) hs1)
  have O3 := Lib.hid (OI.mono o3 b2.size)
  clear o o3
  go_wp2
  go_ret2
  exact ⟨_, v3, ys, os, rfl, O2.out, O3.out, by omega, Below.chg b2 c3 hg.1⟩

end Go.Proofs.YtnehedcelfpegaaDoor
