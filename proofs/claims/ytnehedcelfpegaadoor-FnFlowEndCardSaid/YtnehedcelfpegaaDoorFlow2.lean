/- FlowEnds, FlowEnd: what the program and the reference compute. -/
import Derived.Test.YtnehedcelfpegaaDoorFlow1
import Derived.Lib.MinMax
set_option linter.unusedVariables false
set_option linter.unusedSimpArgs false
namespace Go.Proofs.YtnehedcelfpegaaDoor
open Go.ChangeShapes Go.WideShapes Go.ChangeAt Go.RowKit

def dP (ds : List Dsh) (j : Nat) : Int := (ds.getD j (0, 0)).1
def dC (ds : List Dsh) (j : Nat) : Int := (ds.getD j (0, 0)).2
def fP (ds : List Dsh) (order : List Int) : Nat → Int
  | 0 => 0
  | k + 1 => fP ds order k + dP ds (at0 order k).toNat
def fC (ds : List Dsh) (order : List Int) : Nat → Int
  | 0 => 0
  | k + 1 => max (fC ds order k) (fP ds order (k + 1)) + dC ds (at0 order k).toNat
def fL (ds : List Dsh) (order : List Int) : Nat → List Int
  | 0 => List.replicate ds.length 0
  | k + 1 => (fL ds order k).set (at0 order k).toNat (fC ds order (k + 1))
def endsB (ds : List Dsh) (order : List Int) : List Int := if dishB ds && orderB order ds.length then fL ds order ds.length else []
theorem fL_length (ds : List Dsh) (order : List Int) (k : Nat) : (fL ds order k).length = ds.length := by
  induction k with
  | zero => simp [fL]
  | succ k ih => simp [fL, ih]
theorem dP_bound {ds : List Dsh} (h : dishB ds = true) (j : Nat) : 0 ≤ dP ds j ∧ dP ds j ≤ 30 ∧ 0 ≤ dC ds j ∧ dC ds j ≤ 30 := by
  simp only [dishB, Bool.and_eq_true, List.all_eq_true, dOk, inB_true] at h
  by_cases hj : j < ds.length
  · have := h.1 ds[j] (List.getElem_mem hj)
    simp [dP, dC, hj]; omega
  · simp [dP, dC, hj]
theorem dish_len {ds : List Dsh} (h : dishB ds = true) : ds.length ≤ 6 := by
  simp only [dishB, Bool.and_eq_true, decide_eq_true_eq] at h; exact h.2
theorem fP_bound {ds : List Dsh} (h : dishB ds = true) (order : List Int) (k : Nat) : 0 ≤ fP ds order k ∧ fP ds order k ≤ 30 * k ∧ 0 ≤ fC ds order k ∧ fC ds order k ≤ 60 * k := by
  induction k with
  | zero => simp [fP, fC]
  | succ k ih =>
    have := dP_bound h (at0 order k).toNat
    simp only [fP, fC]
    omega
theorem ord_len {order : List Int} {m : Nat} (h : orderB order m = true) : order.length = m := by
  simp only [orderB, Bool.and_eq_true, decide_eq_true_eq] at h; exact h.2
theorem ord_at {order : List Int} {m : Nat} (h : orderB order m = true) (k : Nat) (hk : k < order.length) : 0 ≤ at0 order k ∧ at0 order k < m := by
  simp only [orderB, Bool.and_eq_true, ordUpTo, List.all_eq_true, List.mem_range, ordP, inB_true] at h
  have := (h.1 k hk).1
  omega
theorem SD.atD {w : World} {B : Nat} {A : Option Addr} {os : List Dsh} (h : SD w B A os) (hp : 0 < os.length) : ∃ b off, A = some ⟨b, off, none⟩ ∧ b < B ∧
    ∀ j, j < os.length → w.cell? ⟨b, off + j * 2, none⟩ = some (.int .i64 (dP os j)) ∧ w.cell? ⟨b, off + j * 2 + 1, none⟩ = some (.int .i64 (dC os j)) := by
  obtain ⟨b, off, e, hb, hc⟩ := h.at_ hp
  exact ⟨b, off, e, hb, fun j hj => by simpa [dP, dC, hj] using hc j hj⟩
theorem endsB_dish {ds : List Dsh} (order : List Int) (h : dishB ds = false) : endsB ds order = [] := by simp [endsB, h]
theorem endsB_order {ds : List Dsh} {order : List Int} (h : orderB order ds.length = false) : endsB ds order = [] := by simp [endsB, h]
theorem endsB_ok {ds : List Dsh} {order : List Int} (h : dishB ds = true) (h2 : orderB order ds.length = true) : endsB ds order = fL ds order ds.length := by simp [endsB, h, h2]
theorem fL_zero (ds : List Dsh) (order : List Int) : filled (.int .i64 0) [] ds.length = ints (fL ds order 0) := by rw [filled_nil, fL, ints_replicate]
theorem ints_set (xs : List Int) (i : Nat) (x : Int) : (ints xs).set i (.int .i64 x) = ints (xs.set i x) := by simp [ints, List.map_set]

set_option maxHeartbeats 8000000 in
theorem impl_flowEnds (A A2 : Option Addr) (c c2 : Nat) (ds : List Dsh) (order : List Int) (w : World) (h : SD w w.heap.size A ds) (h2 : IS w w.heap.size A2 order)
    (hl : ds.length ≤ 1048576) (hl2 : order.length ≤ 1048576) :
    Calls Tryd.prog 23 #[.slice A ds.length c, .slice A2 order.length c2] w (RetI w (endsB ds order)) := by
  cases hd : dishB ds
  · have HE := Lib.hid (endsB_dish order hd)
    go_enter Tryd.func23, Tryd.ntmps23
    go_wp2_with (go_at_call 17; refine (impl_dishesValid A c ds _ h hl).mono ?_; rintro e w1 ⟨rfl, b1⟩)
    go_ret
    exact ⟨_, rfl, by rw [HE.out]; exact OI.nil _ _, b1⟩
  · cases ho : orderB order ds.length
    · have HE := Lib.hid (endsB_order ho)
      go_enter Tryd.func23, Tryd.ntmps23
      go_wp2_with (go_at_call 17; refine (impl_dishesValid A c ds _ h hl).mono ?_; rintro e w1 ⟨rfl, b1⟩)
      go_wp2_with (go_at_call 20; refine (impl_orderOk A2 c2 order ds.length _ ((h2.below b1).more b1.size) hl2 hl).mono ?_; rintro e w2 ⟨rfl, b2⟩)
      go_ret
      exact ⟨_, rfl, by rw [HE.out]; exact OI.nil _ _, below_step b1 b2⟩
    · have HE := Lib.hid (endsB_ok hd ho)
      have HO := Lib.hid (ord_at ho)
      have HB := Lib.hid (fP_bound hd order)
      have HD := Lib.hid (dP_bound hd)
      have h6 := dish_len hd
      have hle := ord_len ho
      have HLE := Lib.hid hle
      have hmk := run_make_row' (P := Tryd.prog) 23 3 (.int .i64 0) 8 Tryd.underlying23 int_info rfl .i64 .i64 ds.length (by omega) (by omega)
      clear hle
      go_enter Tryd.func23, Tryd.ntmps23
      go_wp2_with (go_at_call 17; refine (impl_dishesValid A c ds _ h hl).mono ?_; rintro e w1 ⟨rfl, b1⟩)
      go_wp2_with (go_at_call 20; refine (impl_orderOk A2 c2 order ds.length _ ((h2.below b1).more b1.size) hl2 hl).mono ?_; rintro e w2 ⟨rfl, b2⟩)
      clear hmk hd ho
      have b3 := below_step b1 b2
      go_loopw [6, 7, 25] (fun p q i wr => ∃ k : Nat, k ≤ order.length ∧ i = .int .i64 k ∧ p = .int .i64 (fP ds order k) ∧ q = .int .i64 (fC ds order k) ∧ Blk wr w2.heap.size 3 (ints (fL ds order k)) ∧ Below w.heap.size w wr) (fun _ _ i _ => order.length - (intOf i).toNat)
      case atStart =>
        refine ⟨0, Nat.zero_le _, rfl, rfl, rfl, ?_, below_al b3 _⟩
        rw [← fL_zero]
        exact blk_made w2 _ _ _
      case round =>
        obtain ⟨k, hk, rfl, rfl, rfl, hB, hW⟩ := hrel
        by_cases hlt : k < order.length
        · obtain ⟨b, off, rfl, hbl, hcc⟩ := (h2.below hW).at0_ (by omega)
          have hck := hcc k hlt
          clear hcc
          obtain ⟨i, hi⟩ : ∃ i : Nat, at0 order k = i := ⟨(at0 order k).toNat, by have := HO.out k hlt; omega⟩
          have hil : i < ds.length := by have := HO.out k hlt; omega
          have HI := Lib.hid hi
          rw [hi] at hck
          clear hi
          obtain ⟨b', off', rfl, hbl', hcc⟩ := (h.below hW).atD (by omega)
          obtain ⟨hd1, hd2⟩ := hcc i hil
          clear hcc
          have hb1 := HB.out k
          have hbd := HD.out i
          have hf2 := hB.frozen i
          have hf1 := hB.cell i (by rw [ints_length, fL_length]; exact hil)
          have HEP := Lib.hid (show fP ds order (k + 1) = fP ds order k + dP ds i by rw [fP, HI.out]; rfl)
          have HEC := Lib.hid (show fC ds order (k + 1) = max (fC ds order k) (fP ds order k + dP ds i) + dC ds i by rw [fC, fP, HI.out]; rfl)
          have HB2 := Lib.hid (hB.set_ i (.int .i64 (max (fC ds order k) (fP ds order k + dP ds i) + dC ds i)))
          clear hB
          generalize hfP : fP ds order k = p at *
          generalize hfC : fC ds order k = q at *
          have HfP := Lib.hid hfP
          have HfC := Lib.hid hfC
          clear hfP hfC
          have hk6 : k < 6 := by have := HLE.out; omega
          go_wp2
          go_roundw
          case rel => exact ⟨k + 1, by omega, by go_num, by rw [HEP.out], by rw [HEC.out], by rw [fL, HI.out, HEC.out, ← ints_set]; exact HB2.out, hW.setCell b3.size _⟩
          case measure => simp [intOf]; omega
        · obtain rfl : k = order.length := by omega
          go_wp2
          go_ret
          refine ⟨_, rfl, ?_, hW⟩
          rw [HE.out]
          rw [HLE.out] at hB
          have := hB.ownI b3.size (by rw [fL_length]; simp [maxLen]; omega)
          rwa [fL_length] at this

set_option maxHeartbeats 8000000 in
theorem spec_flowEnds (A A2 : Option Addr) (c c2 : Nat) (ds : List Dsh) (order : List Int) (w : World) (h : SD w w.heap.size A ds) (h2 : IS w w.heap.size A2 order)
    (hl : ds.length ≤ 1048576) (hl2 : order.length ≤ 1048576) (hc2 : order.length ≤ c2) :
    Calls Tryd.prog 25 #[.slice A ds.length c, .slice A2 order.length c2] w (RetI w (endsB ds order)) := by
  cases hd : dishB ds
  · have HE := Lib.hid (endsB_dish order hd)
    go_enter Tryd.func25, Tryd.ntmps25
    go_wp2_with (go_at_call 18; refine (spec_dishesValid A c ds _ _ h hl).mono ?_; rintro e w1 ⟨rfl, rfl⟩)
    go_ret
    exact ⟨_, rfl, by rw [HE.out]; exact own_empty w _ _ _ (Nat.le_refl _), below_al (Below.refl _ _) _⟩
  · cases ho : orderB order ds.length
    · have HE := Lib.hid (endsB_order ho)
      go_enter Tryd.func25, Tryd.ntmps25
      go_wp2_with (go_at_call 18; refine (spec_dishesValid A c ds _ _ h hl).mono ?_; rintro e w1 ⟨rfl, rfl⟩)
      go_wp2_with (go_at_call 21; refine (spec_orderOk A2 c2 order ds.length _ _ h2 hl2 hc2 hl).mono ?_; rintro e w2 ⟨rfl, q, rfl⟩)
      go_ret
      exact ⟨_, rfl, by rw [HE.out]; exact own_empty (w.drewN q) _ _ _ (Nat.le_refl _), below_al (below_n q) _⟩
    · have HE := Lib.hid (endsB_ok hd ho)
      have HO := Lib.hid (ord_at ho)
      have HB := Lib.hid (fP_bound hd order)
      have HD := Lib.hid (dP_bound hd)
      have h6 := dish_len hd
      have hle := ord_len ho
      have HLE := Lib.hid hle
      have hmk := run_make_row' (P := Tryd.prog) 23 3 (.int .i64 0) 8 Tryd.underlying23 int_info rfl .i64 .i64 ds.length (by omega) (by omega)
      clear hle
      go_enter Tryd.func25, Tryd.ntmps25
      go_wp2_with (go_at_call 18; refine (spec_dishesValid A c ds _ _ h hl).mono ?_; rintro e w1 ⟨rfl, rfl⟩)
      go_wp2_with (go_at_call 21; refine (spec_orderOk A2 c2 order ds.length _ _ h2 hl2 hc2 hl).mono ?_; rintro e w2 ⟨rfl, hq⟩)
      have b3 : Below w.heap.size w w2 := by obtain ⟨q, rfl⟩ := hq; exact below_n q
      clear hmk hd ho hq
      go_loopw [6, 7, 8] (fun p q i wr => ∃ k : Nat, k ≤ order.length ∧ i = .int .i64 k ∧ p = .int .i64 (fP ds order k) ∧ q = .int .i64 (fC ds order k) ∧ Blk wr w2.heap.size 3 (ints (fL ds order k)) ∧ Below w.heap.size w wr) (fun _ _ i _ => order.length - (intOf i).toNat)
      case atStart =>
        refine ⟨0, Nat.zero_le _, rfl, rfl, rfl, ?_, below_al b3 _⟩
        rw [← fL_zero]
        exact blk_made w2 _ _ _
      case round =>
        obtain ⟨k, hk, rfl, rfl, rfl, hB, hW⟩ := hrel
        by_cases hlt : k < order.length
        · obtain ⟨b, off, rfl, hbl, hcc⟩ := (h2.below hW).at0_ (by omega)
          have hck := hcc k hlt
          clear hcc
          obtain ⟨i, hi⟩ : ∃ i : Nat, at0 order k = i := ⟨(at0 order k).toNat, by have := HO.out k hlt; omega⟩
          have hil : i < ds.length := by have := HO.out k hlt; omega
          have HI := Lib.hid hi
          rw [hi] at hck
          clear hi
          obtain ⟨b', off', rfl, hbl', hcc⟩ := (h.below hW).atD (by omega)
          obtain ⟨hd1, hd2⟩ := hcc i hil
          clear hcc
          have hb1 := HB.out k
          have hbd := HD.out i
          have hf2 := hB.frozen i
          have hf1 := hB.cell i (by rw [ints_length, fL_length]; exact hil)
          have HEP := Lib.hid (show fP ds order (k + 1) = fP ds order k + dP ds i by rw [fP, HI.out]; rfl)
          have HEC := Lib.hid (show fC ds order (k + 1) = max (fP ds order k + dP ds i) (fC ds order k) + dC ds i by rw [fC, fP, HI.out, Int.max_comm]; rfl)
          have HB0 := Lib.hid hB
          have hsz := hW.size
          have hsz2 := hB.lt
          have hsz3 := b3.size
          have hne1 : b < wr.heap.size := by omega
          have hne2 : b ≠ wr.heap.size := by omega
          clear hB
          generalize hfP : fP ds order k = p at *
          generalize hfC : fC ds order k = q at *
          clear hfP hfC
          have hk6 : k < 6 := by have := HLE.out; omega
          go_wp2
          go_roundw
          case rel => exact ⟨k + 1, by omega, by go_num, by rw [HEP.out], by rw [HEC.out], by rw [fL, HI.out, HEC.out, ← ints_set]; exact (HB0.out.set_ i _).alloc _, below_al (below_sc hW hsz3 _) _⟩
          case measure => simp [intOf]; omega
        · obtain rfl : k = order.length := by omega
          go_wp2
          go_ret
          refine ⟨_, rfl, ?_, hW⟩
          rw [HE.out]
          rw [HLE.out] at hB
          have := hB.ownI b3.size (by rw [fL_length]; simp [maxLen]; omega)
          rwa [fL_length] at this
theorem endsB_len (ds : List Dsh) (order : List Int) (h : ds.length ≤ 1048576) : (endsB ds order).length ≤ 1048576 := by
  unfold endsB; split
  · rw [fL_length]; exact h
  · simp
theorem OwnR.cap {w : World} {lo hi : Nat} {e : TypeId} {size n c : Nat} {A : Option Addr} {cs : List Value} (h : OwnR w lo hi e size (.slice A n c) n cs) : n ≤ c := by
  rcases h.1.2 with ⟨hv, hn⟩ | ⟨g, cap, cur, hv, _, _, hnc, _⟩
  · omega
  · injection hv with _ _ h3
    omega
end Go.Proofs.YtnehedcelfpegaaDoor
