/- DishesValid, OrderOk: what the program and the reference compute. -/
import Derived.Test.YtnehedcelfpegaaDoorDishes
import Derived.Test.YtnehedcelfpegaaDoorAt
import Derived.BigGuardPart
import Derived.Lib.Hide
set_option linter.unusedVariables false
set_option linter.unusedSimpArgs false
namespace Go.Proofs.YtnehedcelfpegaaDoor
open Go.ChangeShapes Go.WideShapes Go.ChangeAt Go.RowKit

def dOk (d : Dsh) : Bool := inB d.1 0 30 && inB d.2 0 30
def dishB (ds : List Dsh) : Bool := ds.all dOk && decide (ds.length ≤ 6)
set_option maxHeartbeats 2000000 in
theorem spec_dishesValid (A : Option Addr) (c : Nat) (ds : List Dsh) (w : World) (B : Nat) (h : SD w B A ds) (hl : ds.length ≤ 1048576) :
    Calls Tryd.prog 18 #[.slice A ds.length c] w fun e w' => e = .returned (.bool (dishB ds)) ∧ w = w' := by
  go_enter Tryd.func18, Tryd.ntmps18
  go_wp2
  go_loop [3] (fun i => ∃ k : Nat, k ≤ ds.length ∧ i = .int .i64 k ∧ (ds.take k).all dOk = true) (fun i => ds.length - (intOf i).toNat)
  case atStart => exact ⟨0, Nat.zero_le _, rfl, by simp⟩
  case round =>
    obtain ⟨k, hk, rfl, ha⟩ := hrel
    have HA := Lib.hid ha
    clear ha
    by_cases hlt : k < ds.length
    · obtain ⟨b, off, rfl, hbl, hc⟩ := h.at_ (by omega)
      obtain ⟨hck1, hck2⟩ := hc k hlt
      cases h1 : inB ds[k].1 0 30
      · go_wp2_with (go_at_call 45; refine (l1In_any _ _ _ _).mono ?_; rintro e w' ⟨rfl, rfl⟩)
        go_ret
        exact ⟨ret_bool (by rw [dishB, all_false _ ds k hlt (by simp [dOk, h1])]; rfl), rfl⟩
      · cases h2 : inB ds[k].2 0 30
        · go_wp2_with (go_at_call 45; refine (l1In_any _ _ _ _).mono ?_; rintro e w' ⟨rfl, rfl⟩)
          go_ret
          exact ⟨ret_bool (by rw [dishB, all_false _ ds k hlt (by simp [dOk, h2])]; rfl), rfl⟩
        · go_wp2_with (go_at_call 45; refine (l1In_any _ _ _ _).mono ?_; rintro e w' ⟨rfl, rfl⟩)
          go_round
          case rel => exact ⟨k + 1, by omega, by go_num, by rw [all_take_succ _ ds k hlt, HA.out]; simp [dOk, h1, h2]⟩
          case measure => simp [intOf]; omega
    · obtain rfl : k = ds.length := by omega
      rw [List.take_length] at HA
      go_wp2
      go_ret
      exact ⟨ret_bool (by rw [dishB, HA.out, Bool.true_and, decide_eq_decide]; omega), rfl⟩
theorem dish_bad {ds : List Dsh} (k : Nat) (hk : k < ds.length) (h : dOk ds[k] = false) : dishB ds = false := by rw [dishB, all_false _ ds k hk h]; rfl
set_option maxHeartbeats 4000000 in
theorem impl_dishesValid (A : Option Addr) (c : Nat) (ds : List Dsh) (w : World) (h : SD w w.heap.size A ds) (hl : ds.length ≤ 1048576) :
    Calls Tryd.prog 17 #[.slice A ds.length c] w fun e w' => e = .returned (.bool (dishB ds)) ∧ Below w.heap.size w w' := by
  by_cases h6 : ds.length ≤ 6
  · go_enter Tryd.func17, Tryd.ntmps17
    go_wp2
    go_loopw [10] (fun i wr => ∃ k : Nat, k ≤ ds.length ∧ i = .int .i64 k ∧ (ds.take k).all dOk = true ∧ Below w.heap.size w wr) (fun i _ => ds.length - (intOf i).toNat)
    case atStart => exact ⟨0, Nat.zero_le _, rfl, by simp, Below.refl _ _⟩
    case round =>
      obtain ⟨k, hk, rfl, ha, hW⟩ := hrel
      have HA := Lib.hid ha
      clear ha
      by_cases hlt : k < ds.length
      · obtain ⟨b, off, rfl, hbl, hc⟩ := (h.below hW).at_ (by omega)
        obtain ⟨hck1, hck2⟩ := hc k hlt
        by_cases hin : 0 ≤ ds[k].1 ∧ ds[k].1 ≤ 30 ∧ 0 ≤ ds[k].2 ∧ ds[k].2 ≤ 30
        · obtain ⟨g1, g2, g3, g4⟩ := hin
          go_wp2
          go_roundw
          case rel => exact ⟨k + 1, by omega, by go_num, by rw [all_take_succ _ ds k hlt, HA.out]; simp [dOk, inB]; omega, below_al hW _⟩
          case measure => simp [intOf]; omega
        · have hbad : dOk ds[k] = false := by simp [dOk, inB]; omega
          have HB := Lib.hid (dish_bad k hlt hbad)
          clear hbad
          by_cases g1 : 0 ≤ ds[k].1
          · by_cases g2 : ds[k].1 ≤ 30
            · by_cases g3 : 0 ≤ ds[k].2
              · have g4 : 30 < ds[k].2 := by omega
                clear hin
                go_wp2
                all_goals (go_ret; exact ⟨ret_bool HB.out.symm, below_al hW _⟩)
              · replace g3 : ds[k].2 < 0 := by omega
                clear hin
                go_wp2
                all_goals (go_ret; exact ⟨ret_bool HB.out.symm, below_al hW _⟩)
            · replace g2 : 30 < ds[k].1 := by omega
              clear hin
              go_wp2
              all_goals (go_ret; exact ⟨ret_bool HB.out.symm, below_al hW _⟩)
          · replace g1 : ds[k].1 < 0 := by omega
            clear hin
            go_wp2
            all_goals (go_ret; exact ⟨ret_bool HB.out.symm, below_al hW _⟩)
      · obtain rfl : k = ds.length := by omega
        rw [List.take_length] at HA
        go_wp2
        go_ret
        exact ⟨ret_bool (by rw [dishB, HA.out, decide_eq_true h6]; rfl), hW⟩
  · have hn : Hid (dishB ds = false) := by simp [Hid, dishB, h6]
    replace h6 : 6 < ds.length := by omega
    go_enter Tryd.func17, Tryd.ntmps17
    go_wp2
    go_ret
    exact ⟨ret_bool hn.out.symm, Below.refl _ _⟩

/-! ### OrderOk -/
theorem quiet_add_left {P : Program} {f : FuncId} {args : Array Value} {w : World} {a n : Nat} {v : Value}
    (h : Calls P f args (w.drewN (a + n)) fun e w' => e = .returned v ∧ w.drewN (a + n) = w') :
    Calls P f args (w.drewN (a + n)) fun e w'' => e = .returned v ∧ ∃ m, w'' = w.drewN (a + m) :=
  h.mono fun _ _ ⟨he, hm⟩ => ⟨he, n, hm.symm⟩
theorem quiet_left {P : Program} {f : FuncId} {args : Array Value} {w : World} {n : Nat} {v : Value}
    (h : Calls P f args (w.drewN n) fun e w' => e = .returned v ∧ w.drewN n = w') : Calls P f args (w.drewN n) fun e w'' => e = .returned v ∧ ∃ m, w'' = w.drewN m :=
  h.mono fun _ _ ⟨he, hm⟩ => ⟨he, n, hm.symm⟩
def ordP (order : List Int) (m : Nat) (k : Nat) : Bool := inB (at0 order k) 0 ((m : Int) - 1) && !hasB (order.take k) (at0 order k)
def ordUpTo (order : List Int) (m k : Nat) : Bool := (List.range k).all (ordP order m)
def orderB (order : List Int) (m : Nat) : Bool := ordUpTo order m order.length && decide (order.length = m)
theorem ordUpTo_succ (order : List Int) (m k : Nat) : ordUpTo order m (k + 1) = (ordUpTo order m k && ordP order m k) := by simp [ordUpTo, List.range_succ]
theorem ordUpTo_false {order : List Int} {m k n : Nat} (h : ordP order m k = false) (hk : k < n) : ordUpTo order m n = false := by
  rw [ordUpTo, List.all_eq_false]
  exact ⟨k, List.mem_range.2 hk, by simp [h]⟩
theorem IS.take_ {w : World} {B : Nat} {A : Option Addr} {xs : List Int} (h : IS w B A xs) (k : Nat) : IS w B A (xs.take k) := by
  refine IS.mk fun hp => ?_
  have hp2 : 0 < xs.length := by rw [List.length_take] at hp; omega
  obtain ⟨b, off, e, hb, hc⟩ := h.at_ hp2
  exact ⟨b, off, e, hb, fun j hj => by rw [List.getElem_take]; exact hc j (by rw [List.length_take] at hj; omega)⟩
set_option maxHeartbeats 4000000 in
theorem spec_orderOk (A : Option Addr) (c : Nat) (order : List Int) (m : Nat) (w : World) (B : Nat) (h : IS w B A order) (hl : order.length ≤ 1048576) (hc : order.length ≤ c) (hm : m ≤ 1048576) :
    Calls Tryd.prog 21 #[.slice A order.length c, .int .i64 m] w fun e w' => e = .returned (.bool (orderB order m)) ∧ ∃ q, w' = w.drewN q := by
  go_enter Tryd.func21, Tryd.ntmps21
  go_wp2
  go_loopw [5] (fun i wr => ∃ k : Nat, k ≤ order.length ∧ i = .int .i64 k ∧ ordUpTo order m k = true ∧ ∃ q, wr = w.drewN q) (fun i _ => order.length - (intOf i).toNat)
  case atStart => exact ⟨0, Nat.zero_le _, rfl, by simp [ordUpTo], 0, rfl⟩
  case round =>
    obtain ⟨k, hk, rfl, ha, q, rfl⟩ := hrel
    have HA := Lib.hid ha
    clear ha
    by_cases hlt : k < order.length
    · obtain ⟨b, off, rfl, hbl, hcc⟩ := h.at0_ (by omega)
      have hck := hcc k hlt
      clear hcc
      have ht := h.take_ k
      have hlk : (order.take k).length = k := by rw [List.length_take]; omega
      have has : ∀ n W, (∃ q, W = w.drewN q) → Calls Tryd.prog 50 #[.slice (some ⟨b, off, none⟩) k c, .int .i64 n] W fun e w' => e = .returned (.bool (hasB (order.take k) n)) ∧ W = w' := by
        rintro n W ⟨q, rfl⟩
        have := l1Has_any (some ⟨b, off, none⟩) c (order.take k) n (w.drewN q) B ht (by omega)
        rwa [hlk] at this
      have HAS := Lib.hid has
      clear has ht hlk
      cases h1 : inB (at0 order k) 0 ((m : Int) - 1)
      · go_wp2_with fail
        go_quiet ((first | (go_at_call 45; exact quiet_add_left (l1In_any _ _ _ _)) | (go_at_call 50; exact quiet_add_left (HAS.out _ _ ⟨_, rfl⟩)) | (go_at_call 45; exact quiet_left (l1In_any _ _ _ _)) | (go_at_call 50; exact quiet_left (HAS.out _ _ ⟨_, rfl⟩))))
        go_wp2
        go_ret
        first | exact ⟨ret_bool (by rw [orderB, ordUpTo_false (k := k) (by rw [ordP, h1]; rfl) hlt]; rfl), _, rfl⟩ | exact ⟨ret_bool (by rw [orderB, ordUpTo_false (k := k) (by rw [ordP, h1]; rfl) hlt]; rfl), _, World.drewN_drewN _ _ _⟩
      · cases h2 : hasB (order.take k) (at0 order k)
        · go_wp2_with fail
          go_quiet ((first | (go_at_call 45; exact quiet_add_left (l1In_any _ _ _ _)) | (go_at_call 50; exact quiet_add_left (HAS.out _ _ ⟨_, rfl⟩)) | (go_at_call 45; exact quiet_left (l1In_any _ _ _ _)) | (go_at_call 50; exact quiet_left (HAS.out _ _ ⟨_, rfl⟩))))
          go_wp2
          go_roundw
          case rel => first | exact ⟨k + 1, by omega, by go_num, by rw [ordUpTo_succ, HA.out, ordP, h1, h2]; rfl, _, rfl⟩ | exact ⟨k + 1, by omega, by go_num, by rw [ordUpTo_succ, HA.out, ordP, h1, h2]; rfl, _, World.drewN_drewN _ _ _⟩
          case measure => simp [intOf]; omega
        · go_wp2_with fail
          go_quiet ((first | (go_at_call 45; exact quiet_add_left (l1In_any _ _ _ _)) | (go_at_call 50; exact quiet_add_left (HAS.out _ _ ⟨_, rfl⟩)) | (go_at_call 45; exact quiet_left (l1In_any _ _ _ _)) | (go_at_call 50; exact quiet_left (HAS.out _ _ ⟨_, rfl⟩))))
          go_wp2
          go_ret
          first | exact ⟨ret_bool (by rw [orderB, ordUpTo_false (k := k) (by rw [ordP, h1, h2]; rfl) hlt]; rfl), _, rfl⟩ | exact ⟨ret_bool (by rw [orderB, ordUpTo_false (k := k) (by rw [ordP, h1, h2]; rfl) hlt]; rfl), _, World.drewN_drewN _ _ _⟩
    · obtain rfl : k = order.length := by omega
      go_wp2
      go_ret
      exact ⟨ret_bool (by rw [orderB, HA.out, Bool.true_and, Bool.eq_iff_iff]; simp; omega), _, rfl⟩

def seenL (order : List Int) (m k : Nat) : List Value := (List.range m).map fun j : Nat => Value.bool (hasB (order.take k) j)
theorem seenL_length (order : List Int) (m k : Nat) : (seenL order m k).length = m := by simp [seenL]
theorem seenL_zero (order : List Int) (m : Nat) : seenL order m 0 = List.replicate m (.bool false) := by
  apply List.ext_getElem (by simp [seenL])
  intro j h1 h2
  simp [seenL, hasB]
theorem seenL_at (order : List Int) (m k j : Nat) (h : j < (seenL order m k).length) : (seenL order m k)[j] = .bool (hasB (order.take k) j) := by simp [seenL]
theorem hasB_succ (order : List Int) (k : Nat) (h : k < order.length) (n : Int) : hasB (order.take (k + 1)) n = (hasB (order.take k) n || at0 order k == n) := by
  rw [hasB, any_take_succ _ order k h, hasB, at0_eq h]
theorem seenL_set (order : List Int) (m k i : Nat) (h : k < order.length) (hi : at0 order k = i) : (seenL order m k).set i (.bool true) = seenL order m (k + 1) := by
  apply List.ext_getElem (by simp [seenL])
  intro j h1 h2
  rw [List.getElem_set]
  by_cases e : i = j
  · subst e
    simp [seenL, hasB_succ order k h, hi]
  · have : (((i : Nat) : Int) == ((j : Nat) : Int)) = false := by rw [beq_eq_false_iff_ne]; omega
    simp [e, seenL, hasB_succ order k h, hi, this]
theorem bool_info : (Tryd.prog.info? 4).map (fun i => (i.zero, i.size, i.bytes)) = some (some (.bool false), 1, 1) := by kernel_rfl
theorem ord_bad {order : List Int} {m k : Nat} (h : ordP order m k = false) (hk : k < order.length) : orderB order m = false := by rw [orderB, ordUpTo_false h hk]; rfl
set_option maxHeartbeats 4000000 in
theorem impl_orderOk (A : Option Addr) (c : Nat) (order : List Int) (m : Nat) (w : World) (h : IS w w.heap.size A order) (hl : order.length ≤ 1048576) (hm : m ≤ 1048576) :
    Calls Tryd.prog 20 #[.slice A order.length c, .int .i64 m] w fun e w' => e = .returned (.bool (orderB order m)) ∧ Below w.heap.size w w' := by
  by_cases hlm : order.length = m
  · subst hlm
    have hmk := run_make_row' (P := Tryd.prog) 62 4 (.bool false) 1 Tryd.underlying62 bool_info rfl .i64 .i64 order.length (by omega) (by omega)
    go_enter Tryd.func20, Tryd.ntmps20
    go_wp2
    clear hmk
    go_loopw [16] (fun i wr => ∃ k : Nat, k ≤ order.length ∧ i = .int .i64 k ∧ ordUpTo order order.length k = true ∧ Blk wr w.heap.size 4 (seenL order order.length k) ∧ Below w.heap.size w wr) (fun i _ => order.length - (intOf i).toNat)
    case atStart =>
      refine ⟨0, Nat.zero_le _, rfl, by simp [ordUpTo], ?_, (Below.refl _ _).alloc (Nat.le_refl _) _⟩
      rw [seenL_zero, ← filled_nil]
      exact blk_made w _ _ _
    case round =>
      obtain ⟨k, hk, rfl, ha, hB, hW⟩ := hrel
      have HA := Lib.hid ha
      clear ha
      by_cases hlt : k < order.length
      · obtain ⟨b, off, rfl, hbl, hcc⟩ := (h.below hW).at0_ (by omega)
        have hck := hcc k hlt
        clear hcc
        by_cases h1 : at0 order k < 0
        · have HB := Lib.hid (ord_bad (m := order.length) (k := k) (by rw [ordP, inB_false.2 (.inl h1)]; rfl) hlt)
          go_wp2
          go_ret
          exact ⟨ret_bool HB.out.symm, hW⟩
        · by_cases h2 : (order.length : Int) ≤ at0 order k
          · have HB := Lib.hid (ord_bad (m := order.length) (k := k) (by rw [ordP, inB_false.2 (.inr (by omega))]; rfl) hlt)
            replace h1 : 0 ≤ at0 order k := by omega
            go_wp2
            go_ret
            exact ⟨ret_bool HB.out.symm, hW⟩
          · obtain ⟨i, hi⟩ : ∃ i : Nat, at0 order k = i := ⟨(at0 order k).toNat, by omega⟩
            have hil : i < order.length := by omega
            have HI := Lib.hid hi
            rw [hi] at hck
            have hin : inB (at0 order k) 0 ((order.length : Int) - 1) = true := inB_true.2 (by omega)
            clear h1 h2 hi
            have hd1 : decide ((i : Int) < 0) = false := decide_eq_false (by omega)
            have hd2 : decide (order.length ≤ i) = false := decide_eq_false (by omega)
            have hb1 := hB.cell i (by rw [seenL_length]; exact hil)
            have hb2 := hB.frozen i
            rw [seenL_at] at hb1
            have HS := Lib.hid (seenL_set order order.length k i hlt HI.out)
            cases hs : hasB (order.take k) i
            · rw [hs] at hb1
              have HR := Lib.hid (show ordUpTo order order.length (k + 1) = true by rw [ordUpTo_succ, HA.out, ordP, hin, HI.out, hs]; rfl)
              have HB2 := Lib.hid (hB.set_ i (.bool true))
              clear hin hs hB
              go_wp2
              go_roundw
              case rel => exact ⟨k + 1, by omega, by go_num, HR.out, by rw [← HS.out]; exact HB2.out, hW.setCell (Nat.le_refl _) _⟩
              case measure => simp [intOf]; omega
            · rw [hs] at hb1
              have HB := Lib.hid (ord_bad (m := order.length) (k := k) (by rw [ordP, HI.out, hs]; simp) hlt)
              clear hin hs hB
              go_wp2
              go_ret
              exact ⟨ret_bool HB.out.symm, hW⟩
      · obtain rfl : k = order.length := by omega
        go_wp2
        go_ret
        exact ⟨ret_bool (by rw [orderB, HA.out, decide_eq_true rfl]; rfl), hW⟩
  · have hn : Hid (orderB order m = false) := by simp [Hid, orderB, hlm]
    have hne : ((order.length : Int) == (m : Int)) = false := by rw [beq_eq_false_iff_ne]; omega
    go_enter Tryd.func20, Tryd.ntmps20
    go_wp2
    go_ret
    exact ⟨ret_bool hn.out.symm, Below.refl _ _⟩
end Go.Proofs.YtnehedcelfpegaaDoor
