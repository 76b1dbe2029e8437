/- FnTicketNew: the law's walk. -/
import Derived.Test.YthbledeghanffaaDoorDraw1
import Derived.Test.YthbledeghanffaaDoorTick3
import Derived.Test.YthbledeghanffaaDoorAlive
set_option linter.unusedVariables false
set_option linter.unusedSimpArgs false
namespace Go.Proofs.YthbledeghanffaaDoor
open Go.ChangeShapes Go.WideShapes Go.ChangeAt Go.RowKit

set_option maxHeartbeats 1000000 in
theorem sameTicket_e (A A' : Option Addr) (c c' : Nat) (os : List Ord) (w : World) (h : SO w w.heap.size A os) (h' : SO w w.heap.size A' os) (hl : os.length ≤ 1048576) :
    Calls Tryd.prog 16 #[.slice A os.length c, .slice A' os.length c'] w (RetE w) := by
  go_enter Tryd.func16, Tryd.ntmps16
  go_wp2
  go_loopw [5] (fun i wr => ∃ k : Nat, k ≤ os.length ∧ i = .int .i64 k ∧ Below w.heap.size w wr) (fun i _ => os.length - (intOf i).toNat)
  case atStart => exact ⟨0, Nat.zero_le _, rfl, Below.refl _ _⟩
  case round =>
    obtain ⟨k, hk, rfl, hW⟩ := hrel
    by_cases hlt : k < os.length
    · obtain ⟨b, off, rfl, hbl, hcc⟩ := SO.at_ (RV.below h hW) (by omega)
      obtain ⟨b', off', rfl, hbl', hcc'⟩ := SO.at_ (RV.below h' hW) (by omega)
      obtain ⟨e1, e2⟩ := hcc k hlt
      obtain ⟨e3, e4⟩ := hcc' k hlt
      clear hcc hcc'
      have hs := hW.size
      go_wp2_with fail
      go_quiet (fail)
      go_wp2
      go_roundw
      case rel => exact ⟨k + 1, by omega, by go_num, below_drewN hW _⟩
      case measure => simp [intOf]; omega
    · obtain rfl : k = os.length := by omega
      go_wp2
      go_ret
      exact ⟨rfl, hW⟩

theorem crs_pos (os : List Ord) (a : Int) (h : ∀ o ∈ os, 0 ≤ o.1) (ha : 0 ≤ a) : 0 ≤ os.foldl crsStep a := by
  induction os generalizing a with
  | nil => exact ha
  | cons o t ih =>
    rw [List.foldl_cons]
    refine ih _ (fun o ho => h o (List.mem_cons_of_mem _ ho)) ?_
    unfold crsStep
    split
    · exact h o (List.mem_cons_self ..)
    · exact ha
theorem new_plain (xs : List Int) (h : xs.all (okB 2) = true) (h6 : xs.length ≤ 6) (h0 : xs ≠ []) : ticketB (ordered xs) = true ∧ doneB (ordered xs) = false := by
  have hx : ∀ x ∈ xs, 0 ≤ x ∧ x ≤ 2 := fun x hx => by
    have := List.all_eq_true.1 h x hx
    simpa [okB, inB] using this
  have ht : ticketB (ordered xs) = true := by
    unfold ticketB
    rw [Bool.and_eq_true, List.all_eq_true]
    refine ⟨fun o ho => ?_, by simp [ordered]; exact h6⟩
    obtain ⟨x, hm, rfl⟩ := List.mem_map.1 ho
    have := hx x hm
    simp [tOk, inB, this]
  refine ⟨ht, ?_⟩
  unfold doneB courseF
  rw [if_pos ht, ht, Bool.true_and]
  refine decide_eq_false ?_
  cases xs with
  | nil => exact absurd rfl h0
  | cons x t =>
    have e : crs (ordered (x :: t)) = (ordered t).foldl crsStep x := by
      simp [crs, ordered, crsStep]
    rw [e]
    have := crs_pos (ordered t) x (fun o ho => by obtain ⟨y, hm, rfl⟩ := List.mem_map.1 ho; exact (hx y (List.mem_cons_of_mem _ hm)).1) (hx x (List.mem_cons_self ..)).1
    omega
theorem newF_cases (xs : List Int) : newF xs = [] ∨ (newF xs = ordered xs ∧ xs ≠ [] ∧ xs.length ≤ 6 ∧ ticketB (ordered xs) = true ∧ doneB (ordered xs) = false) := by
  unfold newF
  split
  · rename_i h
    rw [Bool.and_eq_true, decide_eq_true_eq] at h
    by_cases h0 : xs = []
    · subst h0; exact .inl rfl
    · exact .inr ⟨rfl, h0, h.2, new_plain xs h.1 h.2 h0⟩
  · exact .inl rfl
set_option maxHeartbeats 2000000 in
theorem drawNew_any (A : Option Addr) (c : Nat) (xs : List Int) (w : World) (h : RV w w.heap.size A (bts xs)) (hc : xs.length ≤ c) (hl : xs.length ≤ 1048576) (hb : ∀ x ∈ xs, 0 ≤ x ∧ x ≤ 255) :
    Calls Tryd.prog 14 #[.slice A xs.length c] w fun e w' => ∃ (v : Value) (ys : List Int), e = .returned v ∧ OI w' w.heap.size v ys ∧ ys.length ≤ 7 ∧ Below w.heap.size w w' := by
  have HO := Lib.hid (open_any A c xs w h hc hl hb)
  clear hb h
  go_enter Tryd.func14, Tryd.ntmps14
  go_wp2_with fail
  refine HO.out.mono ?_
  rintro e w1 ⟨g, rfl, r1, b1⟩
  have hg := r1.lt
  have hz1 := b1.size
  go_wp2_with fail
  refine (pick_any w.heap.size g 0 8 _ (r1.below (below_al (Below.refl _ _) _)) (by omega) (by omega) (by omega)).mono ?_
  rintro e w2 ⟨k0, rfl, ⟨hk0, hk7⟩, r2, c2⟩
  have C2 : Chg g (g + 1) w1 w2 := (Chg.refl g (g + 1) w1).and_al _ |>.trans c2
  have O2 : w2.ownsRow w1.heap.size 3 1 (.slice (some ⟨w1.heap.size, 0, none⟩) 0 0) 0 [] := own_chg (own_empty w1 _ 1 _ (Nat.le_refl _)) c2 hg.2
  clear c2 r1
  go_wp2
  go_loopw [4, 5] (fun v i wr => ∃ (k : Nat) (v0 : Value) (ys : List Int), k ≤ 7 ∧ v0 = v ∧ i = .int .i64 (k : Int) ∧ ys.length + k ≤ 7 ∧ OI wr w1.heap.size v0 ys ∧ Rd wr w.heap.size g (1 + 2 * ys.length) ∧ Chg g (g + 1) w1 wr) (fun _ i _ => (intOf i).toNat)
  case atStart => exact ⟨k0.toNat, _, [], by omega, rfl, by congr 1; omega, by simp; omega, O2, r2, C2⟩
  case round =>
    clear O2 r2 C2
    obtain ⟨k, v, ys, hk, rfl, rfl, hyk, hO, hR, hC⟩ := hrel
    cases k with
    | succ k =>
      have hs := hC.size
      go_wp2_with fail
      refine (pick_any w.heap.size g _ 3 _ hR (by omega) (by omega) (by omega)).mono ?_
      rintro e w3 ⟨y, rfl, ⟨hy0, hy3⟩, r3, c3⟩
      have hO3 : w3.ownsRow w1.heap.size 3 1 v ys.length (ints ys) := own_chg hO c3 hg.2
      have hC3 := hC.trans c3
      clear hO hR c3
      go_wp2_with fail
      refine (pick_any w.heap.size g _ 30 _ r3 (by omega) (by omega) (by omega)).mono ?_
      rintro e w4 ⟨q, rfl, ⟨hq0, hq3⟩, r4, c4⟩
      have hO4 : w4.ownsRow w1.heap.size 3 1 v ys.length (ints ys) := own_chg hO3 c4 hg.2
      have hC4 := hC3.trans c4
      clear hO3 hC3 c4 r3
      obtain ⟨d, hd, hd0, hd1⟩ : ∃ d : Int, q.tdiv 29 = d ∧ 0 ≤ d ∧ d ≤ 1 := ⟨_, rfl, by rw [Int.tdiv_eq_ediv_of_nonneg hq0]; omega, by rw [Int.tdiv_eq_ediv_of_nonneg hq0]; omega⟩
      go_wp2_with (at_builtin; refine wpList_app _ rfl (.tmp 15) (.tmp 23) 23 rfl int_EId w1.heap.size v ys.length _ rfl (hO4.alloc _) (some ⟨_, 0, none⟩) 1 1 [.int .i64 (y + d * 3)] rfl rfl (rv_new _ _ _) (one1 _) (le_max (by omega)) (by omega) (hC4.and_al _).size ?_; intro v3 w5 hO5 hg5 _)
      have b5 : Below w1.heap.size w4 w5 := below_app' hC4.size (hO4.alloc _) hg5
      go_roundw
      case rel =>
        have e : (ys ++ [y + d * 3]).length = ys.length + 1 := by simp
        exact ⟨k, _, ys ++ [y + d * 3], by omega, rfl, by go_num, by omega, oi_pushD hO5, (r4.belowB b5 hg.2).more (by omega), hC4.and_below b5⟩
      case measure => simp [intOf]
    | zero =>
      go_wp2
      go_ret
      exact ⟨_, ys, rfl, hO.mono hz1, by omega, Below.chg b1 hC hg.1⟩
set_option maxHeartbeats 4000000 in
theorem walk_fnTicketNew (w : World) (A : Option Addr) (c : Nat) (xs : List Int) (h : RV w w.heap.size A (bts xs)) (hc : xs.length ≤ c) (hm : c ≤ maxLen) (hb : ∀ x ∈ xs, 0 ≤ x ∧ x ≤ 255) :
    Calls Tryd.prog 3 #[.slice A xs.length c] w fun e w' => e = .returned (.bool true) ∧ Below w.heap.size w w' := by
  unfold maxLen at hm
  by_cases hl : xs.length ≤ 1048576
  · have HD := Lib.hid (drawNew_any A c xs w h hc hl hb)
    clear hb h
    have hd8 : decide ((1048576 : Int) < (xs.length : Int)) = false := decide_eq_false (by omega)
    go_enter Tryd.func3, Tryd.ntmps3
    go_wp2_with fail
    refine HD.out.mono ?_
    rintro e w1 ⟨v, ys, rfl, o, hy7, bel⟩
    obtain ⟨A1, c1, rfl, hr1, -⟩ := own_form o
    clear o HD
    go_wp2_with fail
    refine (impl_ticketNew A1 c1 ys _ hr1 (by omega)).mono ?_
    rintro e w2 ⟨v, rfl, o, b2⟩
    have hr1 := RV.step hr1 b2
    obtain ⟨A2, c2, rfl, hr2, -⟩ := own_form o
    clear o
    replace bel := below_step bel b2
    go_wp2_with fail
    refine (spec_ticketNew A1 c1 ys _ hr1 (by omega)).mono ?_
    rintro e w3 ⟨v, rfl, o, b3⟩
    have hr1 := RV.step hr1 b3
    have hr2 := RV.step hr2 b3
    obtain ⟨A3, c3, rfl, hr3, -⟩ := own_form o
    clear o
    replace bel := below_step bel b3
    go_wp2_with fail
    refine (sameTicket_e A2 A3 c2 c3 _ _ hr2 hr3 (newF_len ys)).mono ?_
    rintro e w4 ⟨rfl, b4⟩
    have hr1 := RV.step hr1 b4
    have hr2 := RV.step hr2 b4
    clear hr3
    replace bel := below_step bel b4
    rcases newF_cases ys with hx | ⟨hx, hy0, hy6, ht, hd⟩
    · rw [hx] at hr2 ⊢
      go_wp2_with fail
      refine (alive_any _).mono ?_
      rintro e w5 ⟨rfl, b5⟩
      go_wp2
      go_ret
      exact ⟨rfl, below_step bel b5⟩
    · rw [hx] at hr2 ⊢
      have HT := Lib.hid ht
      have HD := Lib.hid hd
      have HX := Lib.hid hx
      clear hx ht hd
      have hlen := ordered_length ys
      have hyp : 0 < ys.length := List.length_pos_iff.2 hy0
      have hlen2 := ordered_length ys
      rw [hlen]
      have hne : ¬ (ys.length = 0) := by omega
      have hz1 : ((ys.length : Int) == 0) = false := by rw [beq_eq_false_iff_ne]; omega
      go_wp2
      go_loopw [5] (fun i wr => ∃ k : Nat, k ≤ ys.length ∧ i = .int .i64 k ∧ Below w4.heap.size w4 wr) (fun i _ => ys.length - (intOf i).toNat)
      case atStart => exact ⟨0, Nat.zero_le _, rfl, Below.refl _ _⟩
      case round =>
        obtain ⟨k, hk, rfl, hW⟩ := hrel
        by_cases hlt : k < ys.length
        · obtain ⟨b, off, rfl, hbl, hcc⟩ := SO.at_ (RV.below hr2 hW) (by omega)
          obtain ⟨b', off', rfl, hbl', hcc'⟩ := IS.at_ (RV.below hr1 hW) (by omega)
          obtain ⟨e1, e2⟩ := hcc k (by omega)
          have e3 := hcc' k hlt
          have e4 : (ordered ys)[k]'(by omega) = (ys[k], 0) := by simp [ordered]
          rw [e4] at e1 e2
          clear hcc hcc' e4
          have hs := hW.size
          go_wp2_with fail
          go_quiet (fail)
          go_wp2
          go_roundw
          case rel => first | exact ⟨k + 1, by omega, by go_num, below_drewN hW _⟩ | ((repeat apply Exists.intro); exact ⟨⟨k + 1, by omega, by go_num, below_drewN hW _⟩, rfl⟩)
          case measure => simp [intOf]; omega
        · obtain rfl : k = ys.length := by omega
          have hr2' := RV.step hr2 hW
          replace bel := below_step bel hW
          clear hr1 hr2
          go_wp2_with fail
          have hx2 := impl_ticketValid A2 c2 (ordered ys) _ hr2' (by omega)
          rw [hlen2, HT.out] at hx2
          refine hx2.mono ?_
          rintro e w6 ⟨rfl, b6⟩
          have hr2' := RV.step hr2' b6
          go_wp2_with fail
          have hx3 := impl_ticketDone A2 c2 (ordered ys) _ hr2' (by omega)
          rw [hlen2, HD.out] at hx3
          refine hx3.mono ?_
          rintro e w7 ⟨rfl, b7⟩
          go_wp2
          go_ret
          exact ⟨rfl, below_step (below_step bel b6) b7⟩
  · go_enter Tryd.func3, Tryd.ntmps3
    go_wp2
    go_ret
    exact ⟨rfl, Below.refl _ _⟩
end Go.Proofs.YthbledeghanffaaDoor
