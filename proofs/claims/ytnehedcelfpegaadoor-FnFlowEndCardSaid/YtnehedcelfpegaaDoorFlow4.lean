/- FlowBest, FlowLeast: what the program and the reference compute. -/
import Derived.Test.YtnehedcelfpegaaDoorSortF
import Derived.Test.YtnehedcelfpegaaDoorFlowP
import Derived.Test.YtnehedcelfpegaaDoorTog3
set_option linter.unusedVariables false
set_option linter.unusedSimpArgs false
namespace Go.Proofs.YtnehedcelfpegaaDoor
open Go.ChangeShapes Go.WideShapes Go.ChangeAt Go.RowKit

set_option maxRecDepth 20000 in
set_option maxHeartbeats 4000000 in
theorem sortF_nil (A : Option Addr) (c : Nat) (cbv : Value) (w : World) :
    Calls Tryd.prog 53 #[.slice A 0 c, .func (.func 56) #[] #[cbv]] w fun e w' => e = .returned (.tuple #[]) ∧ w = w' := by
  have h1 : Calls Tryd.prog 69 #[.slice A 0 c, .int .i64 0, .int .i64 0, .func (.func 56) #[] #[cbv]] w fun e w' => e = .returned (.tuple #[]) ∧ w = w' := by
    go_enter Tryd.func69, Tryd.ntmps69
    go_wp2
    go_loopw [8] (fun a wr => a = .int .i64 1 ∧ wr = w) (fun _ _ => 0)
    case atStart => exact ⟨rfl, rfl⟩
    case round =>
      obtain ⟨rfl, rfl⟩ := hrel
      go_wp2
      go_end0
      exact ⟨rfl, rfl⟩
  have H1 := Lib.hid h1
  clear h1
  have h2 : Calls Tryd.prog 65 #[.slice A 0 c, .int .i64 0, .func (.func 56) #[] #[cbv]] w fun e w' => e = .returned (.tuple #[]) ∧ w = w' := by
    go_enter Tryd.func65, Tryd.ntmps65
    go_wp2
    go_loopw [7, 8] (fun a b wr => a = .int .i64 0 ∧ b = .int .i64 20 ∧ wr = w) (fun _ _ _ => 0)
    case atStart => exact ⟨rfl, rfl, rfl⟩
    case round =>
      obtain ⟨rfl, rfl, rfl⟩ := hrel
      go_wp2_with (go_at_call 69; refine H1.out.mono ?_; rintro e w1 ⟨rfl, rfl⟩)
      go_loopw [6] (fun a wx => a = .int .i64 20 ∧ wx = wr) (fun _ _ => 0)
      case atStart => exact ⟨rfl, rfl⟩
      case round =>
        obtain ⟨rfl, rfl⟩ := hrel
        go_wp2
        go_end0
        exact ⟨rfl, rfl⟩
  have H2 := Lib.hid h2
  clear h2
  go_enter Tryd.func53, Tryd.ntmps53
  go_wp2_with (go_at_call 65; refine H2.out.mono ?_; rintro e w1 ⟨rfl, rfl⟩)
  go_end0
  exact ⟨rfl, rfl⟩


set_option maxRecDepth 20000 in
set_option maxHeartbeats 4000000 in
theorem compareFlow_any (ds : List Dsh) (hd : dishB ds = true) (i j : Nat) (w : World) :
    Calls Tryd.prog 57 #[.agg #[.int .i64 (dP ds i), .int .i64 (dC ds i)], .agg #[.int .i64 (dP ds j), .int .i64 (dC ds j)]] w fun e w' => e = .returned (.int .i64 (jc ds i j)) ∧ Below w.heap.size w w' := by
  have h1 := dP_bound hd i
  have h2 := dP_bound hd j
  have HJ := Lib.hid (show jc ds i j = if dP ds i < dC ds i then (if dP ds j < dC ds j then dP ds i - dP ds j else -1) else if dP ds j < dC ds j then 1 else dC ds j - dC ds i from rfl)
  clear hd
  generalize dP ds i = p1 at *
  generalize dC ds i = c1 at *
  generalize dP ds j = p2 at *
  generalize dC ds j = c2 at *
  by_cases g1 : p1 < c1 <;> by_cases g2 : p2 < c2
  all_goals
    go_enter Tryd.func57, Tryd.ntmps57
    go_wp2_with fail
    go_quiet (fail)
    go_wp2
    go_ret
    refine ⟨ret_int ?_, below_like (X := (w.alloc (Obj.cells #[Value.int .i64 p1, Value.int .i64 c1] 32)).alloc (Obj.cells #[Value.int .i64 p2, Value.int .i64 c2] 32)) (below_al (below_al (Below.refl _ _) _) _) rfl⟩
  · rw [HJ.out, if_pos g1, if_pos g2]
  · rw [HJ.out, if_pos g1, if_neg (by omega)]
  · rw [HJ.out, if_neg (by omega), if_pos g2]
  · rw [HJ.out, if_neg (by omega), if_neg (by omega)]

set_option maxRecDepth 20000 in
set_option maxHeartbeats 2000000 in
theorem flowClosure (A : Option Addr) (c pb : Nat) (ds : List Dsh) (w : World) (B : Nat) (h : SD w B A ds) (hd : dishB ds = true)
    (h1 : w.cell? ⟨pb, 0, none⟩ = some (.slice A ds.length c)) (h2 : w.frozen? ⟨pb, 0, none⟩ = false) (i j : Nat) (hi : i < ds.length) (hj : j < ds.length) :
    Calls Tryd.prog 56 #[.int .i64 i, .int .i64 j, .pointer (some ⟨pb, 0, none⟩)] w fun e w' => e = .returned (.int .i64 (jc ds i j)) ∧ Below w.heap.size w w' := by
  obtain ⟨b, off, rfl, hbl, hc⟩ := h.atD (by omega)
  obtain ⟨c1, c2⟩ := hc i hi
  obtain ⟨c3, c4⟩ := hc j hj
  have HC := Lib.hid (fun W => compareFlow_any ds hd i j W)
  clear hd hc
  go_enter Tryd.func56, Tryd.ntmps56
  go_wp2_with fail
  go_still_tail 8, (by kernel_rfl)
  go_wp2_with fail
  refine (HC.out _).mono ?_
  rintro e w1 ⟨rfl, b1⟩
  go_wp2
  go_ret
  exact ⟨rfl, (Below.refl w.heap.size w).drew.trans b1⟩
set_option maxRecDepth 20000 in
set_option maxHeartbeats 4000000 in
theorem impl_flowBest (A : Option Addr) (c : Nat) (ds : List Dsh) (w : World) (h : SD w w.heap.size A ds) (hl : ds.length ≤ 1048576) :
    Calls Tryd.prog 34 #[.slice A ds.length c] w (RetI w (bestF ds)) := by
  have hbox : SD (w.alloc (Obj.cells #[Value.slice A ds.length c] 28)) (w.alloc (Obj.cells #[Value.slice A ds.length c] 28)).heap.size A ds := (h.below (below_al (Below.refl _ _) _)).more (below_al (Below.refl _ _) _).size
  cases hs : dishB ds
  · have HE := Lib.hid (bestF_no hs)
    go_enter Tryd.func34, Tryd.ntmps34
    go_wp2_with (go_at_call 17; refine (impl_dishesValid A c ds _ hbox hl).mono ?_; rintro e w1 ⟨rfl, b1⟩)
    go_ret
    exact ⟨_, rfl, by rw [HE.out]; exact OI.nil _ _, below_step (below_al (Below.refl _ _) _) b1⟩
  · have HE := Lib.hid (bestF_yes hs)
    have HS := Lib.hid hs
    go_enter Tryd.func34, Tryd.ntmps34
    have hb0 := Blk.new w 28 #[.slice A ds.length c]
    have hlt := hb0.lt
    go_wp2_with fail
    refine (impl_dishesValid A c ds _ hbox hl).mono ?_
    rintro e w1 ⟨rfl, b1⟩
    have hb1 := hb0.below b1 hlt
    have bel1 : Below w.heap.size w w1 := below_step (below_al (Below.refl _ _) _) b1
    have hlt1 := hb1.lt
    have hc1 := hb1.cell 0 (by simp)
    have hc2 := hb1.frozen 0
    go_wp2_with fail
    refine (indices_any ds.length _ hl).mono ?_
    rintro e w2 ⟨v, rfl, o, b2⟩
    obtain ⟨A2, c2, rfl, -⟩ := own_form o
    have hb := hb1.below b2 hlt1
    have bel : Below w.heap.size w w2 := below_step bel1 b2
    have bz := b2.size
    have bz1 := bel1.size
    generalize hn : (idx ds.length).length = n at *
    rw [idx_length] at hn
    subst hn
    by_cases h0 : ds.length = 0
    · have hx : ds = [] := List.eq_nil_of_length_eq_zero h0
      subst hx
      go_wp2_with (go_at_call 53; refine (sortF_nil _ _ _ _).mono ?_; rintro e w3 ⟨rfl, rfl⟩)
      go_ret
      refine ⟨_, rfl, ?_, bel⟩
      rw [HE.out]
      exact own_mono o (by omega)
    · have o' : w2.ownsRow w1.heap.size 3 1 (.slice A2 ds.length c2) ds.length (ints (idx ds.length)) := by
        have := o
        rwa [OI, idx_length] at this
      clear o
      obtain ⟨g, rfl, hgb⟩ := own_head o' (by omega)
      have h6 := dish_len HS.out
      have hsort := sortStableF_one (.pointer (some ⟨w.heap.size, 0, none⟩)) (jc ds) g ds.length c2 _ (idx ds.length) w2 o' hgb (idx_length _) (by omega) (Rng_idx _) (by
        intro W hW i j hi hj
        have hbW := hb.below hW hlt1
        exact flowClosure A c w.heap.size ds W w.heap.size (h.below (bel.trans (hW.mono (by omega)))) HS.out (hbW.cell 0 (by simp)) (hbW.frozen 0) i j hi hj)
      have HSO := Lib.hid hsort
      clear hsort hs
      go_wp2_with (go_at_call 53; refine HSO.out.mono ?_; rintro e w3 ⟨rfl, o3, b3⟩)
      go_ret
      refine ⟨_, rfl, ?_, bel.trans (b3.mono (by omega))⟩
      rw [HE.out, OI, sortTo_length, idx_length]
      exact own_mono o3 (by omega)
end Go.Proofs.YtnehedcelfpegaaDoor
