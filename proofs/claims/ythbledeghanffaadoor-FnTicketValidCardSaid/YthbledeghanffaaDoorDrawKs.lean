/- The draws of one kitchen. -/
import Derived.Test.YthbledeghanffaaDoorDrawK
import Derived.Test.YthbledeghanffaaDoorWork5
import Derived.Test.YthbledeghanffaaDoorAlive
set_option linter.unusedVariables false
set_option linter.unusedSimpArgs false
namespace Go.Proofs.YthbledeghanffaaDoor
open Go.ChangeShapes Go.WideShapes Go.ChangeAt Go.RowKit

theorem SK.step {w w' : World} {A : Option Addr} {ks : List (List Ord)} (h : SK w w.heap.size A ks) (b : Below w.heap.size w w') : SK w' w'.heap.size A ks := (h.below b).more b.size
theorem total_bound : ∀ {ks : List (List Ord)} (n : Nat), (∀ os ∈ ks, os.length ≤ n) → total ks ≤ n * ks.length
  | [], n, _ => by simp [total]
  | os :: t, n, h => by
    have h1 := h os (by simp)
    have h2 := total_bound (ks := t) n fun x hx => h x (by simp [hx])
    have e : total (os :: t) = os.length + total t := by simp [total]
    rw [e, List.length_cons, Nat.mul_succ]; omega
theorem OK.chg {w w' : World} {lo g : Nat} {v : Value} {rows : List Row} (h : OK w lo v rows) (c : Chg g (g + 1) w w') (hg : g < lo) : OK w' lo v rows := by
  obtain ⟨vs, h1, h2⟩ := h
  exact ⟨vs, own_chg h1 c hg, h2.chg c hg⟩
/-- A kitchen was drawn for a law. -/
def DrawKlP (w : World) (e : Ending) (w' : World) : Prop := ∃ (v : Value) (ks : List (List Ord)), e = .returned v ∧ OK w' w.heap.size v (rowsOf ks) ∧ ks.length + total ks ≤ 600 ∧ Below w.heap.size w w'

set_option maxHeartbeats 2000000 in
theorem drawKitchenValid_any (A : Option Addr) (c : Nat) (xs : List Int) (w : World) (h : RV w w.heap.size A (bts xs)) (hc : xs.length ≤ c) (hl : xs.length ≤ 1048576) (hb : ∀ x ∈ xs, 0 ≤ x ∧ x ≤ 255) :
    Calls Tryd.prog 26 #[.slice A xs.length c] w (DrawKlP w) := by
  have HO := Lib.hid (open_any A c xs w h hc hl hb)
  clear hb h
  go_enter Tryd.func26, Tryd.ntmps26
  go_wp2_with fail
  refine HO.out.mono ?_
  rintro e w1 ⟨g, rfl, r1, b1⟩
  have hg := r1.lt
  go_wp2_with fail
  refine (l20Kitchen_any w.heap.size g 0 2 _ r1 (by omega) (by omega) (by omega)).mono ?_
  rintro e w2 ⟨v, ks, rfl, o, hl, r2, c2⟩
  go_wp2
  go_ret
  exact ⟨v, ks, rfl, OK.mono o b1.size, by have := total_bound 100 hl.2; omega, Below.chg b1 c2 hg.1⟩

set_option maxHeartbeats 2000000 in
theorem drawNextFire_any (A : Option Addr) (c : Nat) (xs : List Int) (w : World) (h : RV w w.heap.size A (bts xs)) (hc : xs.length ≤ c) (hl : xs.length ≤ 1048576) (hb : ∀ x ∈ xs, 0 ≤ x ∧ x ≤ 255) :
    Calls Tryd.prog 41 #[.slice A xs.length c] w (DrawKlP w) := by
  have HO := Lib.hid (open_any A c xs w h hc hl hb)
  clear hb h
  go_enter Tryd.func41, Tryd.ntmps41
  go_wp2_with fail
  refine HO.out.mono ?_
  rintro e w1 ⟨g, rfl, r1, b1⟩
  have hg := r1.lt
  go_wp2_with fail
  refine (l20Kitchen_any w.heap.size g 0 9 _ r1 (by omega) (by omega) (by omega)).mono ?_
  rintro e w2 ⟨v, ks, rfl, o, hl, r2, c2⟩
  go_wp2
  go_ret
  exact ⟨v, ks, rfl, OK.mono o b1.size, by have := total_bound 100 hl.2; omega, Below.chg b1 c2 hg.1⟩

set_option maxHeartbeats 2000000 in
theorem drawWorkStep_any (A : Option Addr) (c : Nat) (xs : List Int) (w : World) (h : RV w w.heap.size A (bts xs)) (hc : xs.length ≤ c) (hl : xs.length ≤ 1048576) (hb : ∀ x ∈ xs, 0 ≤ x ∧ x ≤ 255) :
    Calls Tryd.prog 46 #[.slice A xs.length c] w (DrawKlP w) := by
  have HO := Lib.hid (open_any A c xs w h hc hl hb)
  clear hb h
  go_enter Tryd.func46, Tryd.ntmps46
  go_wp2_with fail
  refine HO.out.mono ?_
  rintro e w1 ⟨g, rfl, r1, b1⟩
  have hg := r1.lt
  go_wp2_with fail
  refine (l20Kitchen_any w.heap.size g 0 9 _ r1 (by omega) (by omega) (by omega)).mono ?_
  rintro e w2 ⟨v, ks, rfl, o, hl, r2, c2⟩
  go_wp2
  go_ret
  exact ⟨v, ks, rfl, OK.mono o b1.size, by have := total_bound 100 hl.2; omega, Below.chg b1 c2 hg.1⟩

set_option maxHeartbeats 2000000 in
theorem drawWorkLeft_any (A : Option Addr) (c : Nat) (xs : List Int) (w : World) (h : RV w w.heap.size A (bts xs)) (hc : xs.length ≤ c) (hl : xs.length ≤ 1048576) (hb : ∀ x ∈ xs, 0 ≤ x ∧ x ≤ 255) :
    Calls Tryd.prog 32 #[.slice A xs.length c] w (DrawKlP w) := by
  have HO := Lib.hid (open_any A c xs w h hc hl hb)
  clear hb h
  go_enter Tryd.func32, Tryd.ntmps32
  go_wp2_with fail
  refine HO.out.mono ?_
  rintro e w1 ⟨g, rfl, r1, b1⟩
  have hg := r1.lt
  go_wp2_with fail
  refine (l20Kitchen_any w.heap.size g 0 9 _ r1 (by omega) (by omega) (by omega)).mono ?_
  rintro e w2 ⟨v, ks, rfl, o, hl, r2, c2⟩
  go_wp2
  go_ret
  exact ⟨v, ks, rfl, OK.mono o b1.size, by have := total_bound 100 hl.2; omega, Below.chg b1 c2 hg.1⟩

set_option maxHeartbeats 2000000 in
theorem drawWorkRun_any (A : Option Addr) (c : Nat) (xs : List Int) (w : World) (h : RV w w.heap.size A (bts xs)) (hc : xs.length ≤ c) (hl : xs.length ≤ 1048576) (hb : ∀ x ∈ xs, 0 ≤ x ∧ x ≤ 255) :
    Calls Tryd.prog 50 #[.slice A xs.length c] w fun e w' => ∃ (v : Value) (ks : List (List Ord)) (m : Int), e = .returned (.tuple #[v, .int .i64 m]) ∧ OK w' w.heap.size v (rowsOf ks) ∧ ks.length + total ks ≤ 600 ∧ (-1000 ≤ m ∧ m ≤ 1000) ∧ Below w.heap.size w w' := by
  have HO := Lib.hid (open_any A c xs w h hc hl hb)
  clear hb h
  go_enter Tryd.func50, Tryd.ntmps50
  go_wp2_with fail
  refine HO.out.mono ?_
  rintro e w1 ⟨g, rfl, r1, b1⟩
  have hg := r1.lt
  go_wp2_with fail
  refine (l20Kitchen_any w.heap.size g 0 9 _ r1 (by omega) (by omega) (by omega)).mono ?_
  rintro e w2 ⟨v, ks, rfl, o, hl, r2, c2⟩
  have hs1 := b1.size
  have b2 := Below.chg b1 c2 hg.1
  go_wp2_with fail
  refine (pick_any w.heap.size g _ 40 _ r2 (by omega) (by omega) (by omega)).mono ?_
  rintro e w3 ⟨a1, rfl, ⟨ha1, ha2⟩, r3, c3⟩
  go_wp2_with fail
  refine (pick_any w.heap.size g _ 20 _ r3 (by omega) (by omega) (by omega)).mono ?_
  rintro e w4 ⟨q1, rfl, ⟨hq1, hq2⟩, r4, c4⟩
  obtain ⟨d1, hd1, hd10, hd11⟩ : ∃ d : Int, q1.tdiv 19 = d ∧ 0 ≤ d ∧ d ≤ 1 := ⟨_, rfl, by rw [Int.tdiv_eq_ediv_of_nonneg hq1]; omega, by rw [Int.tdiv_eq_ediv_of_nonneg hq1]; omega⟩
  go_wp2_with fail
  refine (pick_any w.heap.size g _ 20 _ r4 (by omega) (by omega) (by omega)).mono ?_
  rintro e w5 ⟨q2, rfl, ⟨hq3, hq4⟩, r5, c5⟩
  obtain ⟨d2, hd2, hd20, hd21⟩ : ∃ d : Int, q2.tdiv 19 = d ∧ 0 ≤ d ∧ d ≤ 1 := ⟨_, rfl, by rw [Int.tdiv_eq_ediv_of_nonneg hq3]; omega, by rw [Int.tdiv_eq_ediv_of_nonneg hq3]; omega⟩
  go_wp2
  go_ret2
  exact ⟨v, ks, _, rfl, OK.mono (((o.chg c3 hg.2).chg c4 hg.2).chg c5 hg.2) hs1, by have := total_bound 100 hl.2; omega, by omega, Below.chg (Below.chg (Below.chg b2 c3 hg.1) c4 hg.1) c5 hg.1⟩

end Go.Proofs.YthbledeghanffaaDoor
