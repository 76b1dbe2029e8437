/- FlowEnd: what the program and the reference compute. -/
import Derived.Test.YtnehedcelfpegaaDoorFlow2
set_option linter.unusedVariables false
set_option linter.unusedSimpArgs false
namespace Go.Proofs.YtnehedcelfpegaaDoor
open Go.ChangeShapes Go.WideShapes Go.ChangeAt Go.RowKit

def grF (xs : List Int) : Nat → Int
  | 0 => 0
  | k + 1 => max (grF xs k) (at0 xs k)
def endB (ds : List Dsh) (order : List Int) : Int := if dishB ds && orderB order ds.length then grF (endsB ds order) (endsB ds order).length else -1
theorem endB_dish {ds : List Dsh} (order : List Int) (h : dishB ds = false) : endB ds order = -1 := by simp [endB, h]
theorem endB_order {ds : List Dsh} {order : List Int} (h : orderB order ds.length = false) : endB ds order = -1 := by simp [endB, h]
theorem endB_ok {ds : List Dsh} {order : List Int} (h : dishB ds = true) (h2 : orderB order ds.length = true) : endB ds order = grF (endsB ds order) (endsB ds order).length := by simp [endB, h, h2]
set_option maxHeartbeats 4000000 in
theorem greatest_any (A : Option Addr) (c : Nat) (xs : List Int) (w : World) (B : Nat) (h : IS w B A xs) (hl : xs.length ≤ 1048576) :
    Calls Tryd.prog 58 #[.slice A xs.length c] w fun e w' => e = .returned (.int .i64 (grF xs xs.length)) ∧ w = w' := by
  go_enter Tryd.func58, Tryd.ntmps58
  go_wp2
  go_loop [3, 8] (fun m i => ∃ k : Nat, k ≤ xs.length ∧ i = .int .i64 k ∧ m = .int .i64 (grF xs k)) (fun _ i => xs.length - (intOf i).toNat)
  case atStart => exact ⟨0, Nat.zero_le _, rfl, rfl⟩
  case round =>
    obtain ⟨k, hk, rfl, rfl⟩ := hrel
    by_cases hlt : k < xs.length
    · obtain ⟨b, off, rfl, hbl, hcc⟩ := h.at0_ (by omega)
      have hck := hcc k hlt
      clear hcc
      go_wp2
      go_round
      case rel => exact ⟨k + 1, by omega, by go_num, rfl⟩
      case measure => simp [intOf]; omega
    · obtain rfl : k = xs.length := by omega
      go_wp2
      go_ret
      exact ⟨rfl, rfl⟩
set_option maxHeartbeats 8000000 in
theorem impl_flowEnd (A A2 : Option Addr) (c c2 : Nat) (ds : List Dsh) (order : List Int) (w : World) (h : SD w w.heap.size A ds) (h2 : IS w w.heap.size A2 order)
    (hl : ds.length ≤ 1048576) (hl2 : order.length ≤ 1048576) :
    Calls Tryd.prog 36 #[.slice A ds.length c, .slice A2 order.length c2] w fun e w' => e = .returned (.int .i64 (endB ds order)) ∧ Below w.heap.size w w' := by
  cases hd : dishB ds
  · have HE := Lib.hid (endB_dish order hd)
    go_enter Tryd.func36, Tryd.ntmps36
    go_wp2_with (go_at_call 17; refine (impl_dishesValid A c ds _ h hl).mono ?_; rintro e w1 ⟨rfl, b1⟩)
    go_ret
    exact ⟨ret_int HE.out.symm, b1⟩
  · cases ho : orderB order ds.length
    · have HE := Lib.hid (endB_order ho)
      go_enter Tryd.func36, Tryd.ntmps36
      go_wp2_with (go_at_call 17; refine (impl_dishesValid A c ds _ h hl).mono ?_; rintro e w1 ⟨rfl, b1⟩)
      go_wp2_with (go_at_call 20; refine (impl_orderOk A2 c2 order ds.length _ ((h2.below b1).more b1.size) hl2 hl).mono ?_; rintro e w2 ⟨rfl, b2⟩)
      go_ret
      exact ⟨ret_int HE.out.symm, below_step b1 b2⟩
    · have HE := Lib.hid (endB_ok hd ho)
      go_enter Tryd.func36, Tryd.ntmps36
      go_wp2_with (go_at_call 17; refine (impl_dishesValid A c ds _ h hl).mono ?_; rintro e w1 ⟨rfl, b1⟩)
      go_wp2_with (go_at_call 20; refine (impl_orderOk A2 c2 order ds.length _ ((h2.below b1).more b1.size) hl2 hl).mono ?_; rintro e w2 ⟨rfl, b2⟩)
      have b3 := below_step b1 b2
      go_wp2_with (go_at_call 23; refine (impl_flowEnds A A2 c c2 ds order _ ((h.below b3).more b3.size) ((h2.below b3).more b3.size) hl hl2).mono ?_; rintro e w4 ⟨v, rfl, o, b4⟩; obtain ⟨A4, c4, rfl, r4, -⟩ := o.form)
      go_wp2_with (go_at_call 58; refine (greatest_any A4 c4 _ _ _ r4 (endsB_len ds order hl)).mono ?_; rintro e w5 ⟨rfl, rfl⟩)
      go_ret
      exact ⟨ret_int HE.out.symm, below_step b3 b4⟩
set_option maxHeartbeats 8000000 in
theorem spec_flowEnd (A A2 : Option Addr) (c c2 : Nat) (ds : List Dsh) (order : List Int) (w : World) (h : SD w w.heap.size A ds) (h2 : IS w w.heap.size A2 order)
    (hl : ds.length ≤ 1048576) (hl2 : order.length ≤ 1048576) (hc2 : order.length ≤ c2) :
    Calls Tryd.prog 38 #[.slice A ds.length c, .slice A2 order.length c2] w fun e w' => e = .returned (.int .i64 (endB ds order)) ∧ Below w.heap.size w w' := by
  cases hd : dishB ds
  · have HE := Lib.hid (endB_dish order hd)
    go_enter Tryd.func38, Tryd.ntmps38
    go_wp2_with (go_at_call 18; refine (spec_dishesValid A c ds _ _ h hl).mono ?_; rintro e w1 ⟨rfl, rfl⟩)
    go_ret
    exact ⟨ret_int HE.out.symm, Below.refl _ _⟩
  · cases ho : orderB order ds.length
    · have HE := Lib.hid (endB_order ho)
      go_enter Tryd.func38, Tryd.ntmps38
      go_wp2_with (go_at_call 18; refine (spec_dishesValid A c ds _ _ h hl).mono ?_; rintro e w1 ⟨rfl, rfl⟩)
      go_wp2_with (go_at_call 21; refine (spec_orderOk A2 c2 order ds.length _ _ h2 hl2 hc2 hl).mono ?_; rintro e w2 ⟨rfl, q, rfl⟩)
      go_ret
      exact ⟨ret_int HE.out.symm, below_n q⟩
    · have HE := Lib.hid (endB_ok hd ho)
      go_enter Tryd.func38, Tryd.ntmps38
      go_wp2_with (go_at_call 18; refine (spec_dishesValid A c ds _ _ h hl).mono ?_; rintro e w1 ⟨rfl, rfl⟩)
      go_wp2_with (go_at_call 21; refine (spec_orderOk A2 c2 order ds.length _ _ h2 hl2 hc2 hl).mono ?_; rintro e w2 ⟨rfl, hq⟩)
      have b3 : Below w.heap.size w w2 := by obtain ⟨q, rfl⟩ := hq; exact below_n q
      clear hq
      go_wp2_with (go_at_call 25; refine (spec_flowEnds A A2 c c2 ds order _ ((h.below b3).more b3.size) ((h2.below b3).more b3.size) hl hl2 hc2).mono ?_; rintro e w4 ⟨v, rfl, o, b4⟩; obtain ⟨A4, c4, rfl, r4, -⟩ := o.form)
      clear hd ho o
      have b5 := below_step b3 b4
      have hle := endsB_len ds order hl
      generalize endsB ds order = xs at *
      go_loop [5, 7] (fun m i => ∃ k : Nat, k ≤ xs.length ∧ i = .int .i64 k ∧ m = .int .i64 (grF xs k)) (fun _ i => xs.length - (intOf i).toNat)
      case atStart => exact ⟨0, Nat.zero_le _, rfl, rfl⟩
      case round =>
        obtain ⟨k, hk, rfl, rfl⟩ := hrel
        by_cases hlt : k < xs.length
        · obtain ⟨b, off, rfl, hbl, hcc⟩ := r4.at0_ (by omega)
          have hck := hcc k hlt
          clear hcc
          go_wp2
          go_round
          case rel => exact ⟨k + 1, by omega, by go_num, rfl⟩
          case measure => simp [intOf]; omega
        · obtain rfl : k = xs.length := by omega
          go_wp2
          go_ret
          exact ⟨ret_int HE.out.symm, b5⟩
end Go.Proofs.YtnehedcelfpegaaDoor
