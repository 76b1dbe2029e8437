/- The draws of one ticket. -/
import Derived.Test.YthbledeghanffaaDoorDrawT
import Derived.Test.YthbledeghanffaaDoorAlive
set_option linter.unusedVariables false
set_option linter.unusedSimpArgs false
namespace Go.Proofs.YthbledeghanffaaDoor
open Go.ChangeShapes Go.WideShapes Go.ChangeAt Go.RowKit

/-- A ticket was drawn for a law. -/
def DrawTP (w : World) (e : Ending) (w' : World) : Prop := ∃ (v : Value) (os : List Ord), e = .returned v ∧ OO w' w.heap.size v os ∧ os.length ≤ 100 ∧ Below w.heap.size w w'
set_option maxHeartbeats 2000000 in
theorem drawTicketValid_any (A : Option Addr) (c : Nat) (xs : List Int) (w : World) (h : RV w w.heap.size A (bts xs)) (hc : xs.length ≤ c) (hl : xs.length ≤ 1048576) (hb : ∀ x ∈ xs, 0 ≤ x ∧ x ≤ 255) :
    Calls Tryd.prog 21 #[.slice A xs.length c] w (DrawTP w) := by
  have HO := Lib.hid (open_any A c xs w h hc hl hb)
  clear hb h
  go_enter Tryd.func21, Tryd.ntmps21
  go_wp2_with fail
  refine HO.out.mono ?_
  rintro e w1 ⟨g, rfl, r1, b1⟩
  have hg := r1.lt
  go_wp2_with fail
  refine (l20Ticket_any w.heap.size g 0 2 _ r1 (by omega) (by omega) (by omega)).mono ?_
  rintro e w2 ⟨v, os, rfl, o, hl, r2, c2⟩
  go_wp2
  go_ret
  exact ⟨v, os, rfl, OO.mono o b1.size, hl, Below.chg b1 c2 hg.1⟩
set_option maxHeartbeats 2000000 in
theorem drawTicketMay_any (A : Option Addr) (c : Nat) (xs : List Int) (w : World) (h : RV w w.heap.size A (bts xs)) (hc : xs.length ≤ c) (hl : xs.length ≤ 1048576) (hb : ∀ x ∈ xs, 0 ≤ x ∧ x ≤ 255) :
    Calls Tryd.prog 35 #[.slice A xs.length c] w (DrawTP w) := by
  have HO := Lib.hid (open_any A c xs w h hc hl hb)
  clear hb h
  go_enter Tryd.func35, Tryd.ntmps35
  go_wp2_with fail
  refine HO.out.mono ?_
  rintro e w1 ⟨g, rfl, r1, b1⟩
  have hg := r1.lt
  go_wp2_with fail
  refine (l20Ticket_any w.heap.size g 0 9 _ r1 (by omega) (by omega) (by omega)).mono ?_
  rintro e w2 ⟨v, os, rfl, o, hl, r2, c2⟩
  go_wp2
  go_ret
  exact ⟨v, os, rfl, OO.mono o b1.size, hl, Below.chg b1 c2 hg.1⟩
set_option maxHeartbeats 2000000 in
theorem drawTicketCourse_any (A : Option Addr) (c : Nat) (xs : List Int) (w : World) (h : RV w w.heap.size A (bts xs)) (hc : xs.length ≤ c) (hl : xs.length ≤ 1048576) (hb : ∀ x ∈ xs, 0 ≤ x ∧ x ≤ 255) :
    Calls Tryd.prog 23 #[.slice A xs.length c] w (DrawTP w) := by
  have HO := Lib.hid (open_any A c xs w h hc hl hb)
  clear hb h
  go_enter Tryd.func23, Tryd.ntmps23
  go_wp2_with fail
  refine HO.out.mono ?_
  rintro e w1 ⟨g, rfl, r1, b1⟩
  have hg := r1.lt
  go_wp2_with fail
  refine (l20Ticket_any w.heap.size g 0 9 _ r1 (by omega) (by omega) (by omega)).mono ?_
  rintro e w2 ⟨v, os, rfl, o, hl, r2, c2⟩
  go_wp2
  go_ret
  exact ⟨v, os, rfl, OO.mono o b1.size, hl, Below.chg b1 c2 hg.1⟩
end Go.Proofs.YthbledeghanffaaDoor
