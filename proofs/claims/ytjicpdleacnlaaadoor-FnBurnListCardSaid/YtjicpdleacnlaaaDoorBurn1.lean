/- BurnOk, BurnEnd: what the program and the reference compute. -/
import Derived.Test.YtjicpdleacnlaaaDoorBurnP
import Derived.Lib.MinMax
import Derived.StillTailTactics
import Derived.BigRegion
set_option linter.unusedVariables false
set_option linter.unusedSimpArgs false
namespace Go.Proofs.YtjicpdleacnlaaaDoor
open Go.ChangeShapes Go.WideShapes Go.ChangeAt Go.RowKit

theorem amt_burn (xs on : List Int) (m : Int) (h1 : spansB xs = true) (h2 : 1 ≤ m ∧ m ≤ 3) : amtB on xs.length (m - 1) = burnB xs m on := by
  have e : inB m 1 3 = true := inB_true.2 h2
  rw [burnB, h1, e, amtB, Bool.true_and, Bool.true_and, Bool.and_comm]
  congr 1
  rw [decide_eq_decide]; omega
theorem burn_bad (xs on : List Int) (m : Int) (h : spansB xs = false ∨ m < 1 ∨ 3 < m) : burnB xs m on = false := by
  rcases h with h | h
  · rw [burnB, h]; simp
  · have : inB m 1 3 = false := inB_false.2 (by omega)
    rw [burnB, this]; simp
set_option maxHeartbeats 4000000 in
theorem impl_burnOk (A A2 : Option Addr) (c c2 : Nat) (xs on : List Int) (m : Int) (w : World) (B B2 : Nat) (h : IS w B A xs) (h2 : IS w B2 A2 on) (hl : xs.length ≤ 1048576) (hl2 : on.length ≤ 1048576) (hm : -1000 ≤ m ∧ m ≤ 1000) :
    Calls Tryd.prog 14 #[.slice A xs.length c, .int .i64 m, .slice A2 on.length c2] w fun e w' => e = .returned (.bool (burnB xs m on)) ∧ w = w' := by
  cases hs : spansB xs
  · have HE := Lib.hid (burn_bad xs on m (.inl hs))
    go_enter Tryd.func14, Tryd.ntmps14
    go_wp2_with (go_at_call 50; refine (impl_spansValid A c xs _ _ h hl).mono ?_; rintro e w1 ⟨rfl, rfl⟩)
    go_ret
    exact ⟨ret_bool HE.out.symm, rfl⟩
  · by_cases h1 : m < 1
    · have HE := Lib.hid (burn_bad xs on m (.inr (.inl h1)))
      go_enter Tryd.func14, Tryd.ntmps14
      go_wp2_with (go_at_call 50; refine (impl_spansValid A c xs _ _ h hl).mono ?_; rintro e w1 ⟨rfl, rfl⟩)
      go_ret
      exact ⟨ret_bool HE.out.symm, rfl⟩
    · by_cases h3 : 3 < m
      · have HE := Lib.hid (burn_bad xs on m (.inr (.inr h3)))
        go_enter Tryd.func14, Tryd.ntmps14
        go_wp2_with (go_at_call 50; refine (impl_spansValid A c xs _ _ h hl).mono ?_; rintro e w1 ⟨rfl, rfl⟩)
        go_ret
        exact ⟨ret_bool HE.out.symm, rfl⟩
      · have HE := Lib.hid (amt_burn xs on m hs (by omega))
        have hd1 : decide (m < 1) = false := decide_eq_false h1
        have hd2 : decide (3 < m) = false := decide_eq_false h3
        go_enter Tryd.func14, Tryd.ntmps14
        go_wp2_with fail
        refine (impl_spansValid A c xs _ _ h hl).mono ?_
        rintro e w1 ⟨rfl, rfl⟩
        go_wp2_with fail
        clear hs
        refine (amountsOk_any A2 c2 on (xs.length : Int) (m - 1) _ _ h2 (by omega)).mono ?_
        rintro e w1 ⟨rfl, rfl⟩
        rw [HE.out]
        go_wp2
        go_ret
        exact ⟨rfl, rfl⟩
set_option maxHeartbeats 4000000 in
theorem spec_burnOk (A A2 : Option Addr) (c c2 : Nat) (xs on : List Int) (m : Int) (w : World) (B B2 : Nat) (h : IS w B A xs) (h2 : IS w B2 A2 on) (hl : xs.length ≤ 1048576) (hl2 : on.length ≤ 1048576) (hm : -1000 ≤ m ∧ m ≤ 1000) :
    Calls Tryd.prog 15 #[.slice A xs.length c, .int .i64 m, .slice A2 on.length c2] w fun e w' => e = .returned (.bool (burnB xs m on)) ∧ w = w' := by
  go_enter Tryd.func15, Tryd.ntmps15
  go_wp2
  go_loop [7] (fun i => ∃ k : Nat, k ≤ on.length ∧ i = .int .i64 k ∧ Hid ((on.take k).all (fun x => inB x 0 (m - 1)) = true)) (fun i => on.length - (intOf i).toNat)
  case atStart => exact ⟨0, Nat.zero_le _, rfl, by simp [Hid]⟩
  case round =>
    obtain ⟨k, hk, rfl, HA⟩ := hrel
    by_cases hlt : k < on.length
    · obtain ⟨b, off, rfl, hbl, hc⟩ := h2.at_ (by omega)
      have hck := hc k hlt
      have HS := Lib.hid (all_take_succ (fun x => inB x 0 (m - 1)) on k hlt)
      have HN := Lib.hid (fun hh => all_false (fun x => inB x 0 (m - 1)) on k hlt hh)
      clear hc
      generalize on[k] = x at *
      cases hx : inB x 0 (m - 1)
      · have HB := Lib.hid (show burnB xs m on = false by rw [burnB, HN.out hx]; rfl)
        go_wp2_with (go_at_call 52; refine (l1In_any _ _ _ _).mono ?_; rintro e w' ⟨rfl, rfl⟩)
        go_ret
        exact ⟨ret_bool HB.out.symm, rfl⟩
      · have HB := Lib.hid (show (on.take (k + 1)).all (fun x => inB x 0 (m - 1)) = true by rw [HS.out, HA.out, hx]; rfl)
        go_wp2_with (go_at_call 52; refine (l1In_any _ _ _ _).mono ?_; rintro e w' ⟨rfl, rfl⟩)
        go_round
        case rel => exact ⟨k + 1, by omega, by go_num, HB⟩
        case measure => (simp [intOf]) <;> omega
    · obtain rfl : k = on.length := by omega
      have HAL : Hid (on.all (fun x => inB x 0 (m - 1)) = true) := Lib.hid (by have := HA.out; rwa [List.take_length] at this)
      have HB : Hid (burnB xs m on = (spansB xs && (inB m 1 3 && decide (on.length = xs.length)))) := Lib.hid (by rw [burnB, HAL.out, Bool.true_and])
      cases hs : spansB xs
      · rw [hs] at HB
        go_wp2_with (go_at_call 26; refine (spec_spansValid A c xs _ _ h hl).mono ?_; rintro e w' ⟨rfl, rfl⟩)
        go_ret
        exact ⟨ret_bool (by rw [HB.out]; rfl), rfl⟩
      · rw [hs] at HB
        cases hm3 : inB m 1 3
        · rw [hm3] at HB
          go_wp2_with fail
          refine (spec_spansValid A c xs _ _ h hl).mono ?_
          rintro e w' ⟨rfl, rfl⟩
          go_wp2_with (go_at_call 52; refine (l1In_any _ _ _ _).mono ?_; rintro e w' ⟨rfl, rfl⟩)
          go_ret
          exact ⟨ret_bool (by rw [HB.out]; rfl), rfl⟩
        · rw [hm3] at HB
          go_wp2_with fail
          refine (spec_spansValid A c xs _ _ h hl).mono ?_
          rintro e w' ⟨rfl, rfl⟩
          go_wp2_with (go_at_call 52; refine (l1In_any _ _ _ _).mono ?_; rintro e w' ⟨rfl, rfl⟩)
          go_ret
          refine ⟨ret_bool ?_, rfl⟩
          rw [HB.out, Bool.eq_iff_iff]
          simp
          try omega
theorem load_succ (xs on : List Int) (b : Int) (k : Nat) : load xs on b (k + 1) = load xs on b k + (if at0 on k = b then at0 xs k else 0) := rfl
theorem loads_set {xs on : List Int} {M : Nat} (k a : Nat) (ha : at0 on k = a) (haM : a < M) : (loads xs on M k).set a (load xs on a k + at0 xs k) = loads xs on M (k + 1) := by
  apply List.ext_getElem (by simp [loads])
  intro j h1 h2
  have hj : j < M := by simpa [loads] using h2
  rw [List.getElem_set]
  simp only [loads, List.getElem_map, List.getElem_range]
  rw [load_succ, ha]
  by_cases e : a = j
  · subst e; simp
  · rw [if_neg e, if_neg (by omega)]; omega
theorem loads_start (xs on : List Int) (M : Nat) : loads xs on M 0 = List.replicate M 0 := by
  apply List.ext_getElem (by simp [loads])
  intro j h1 h2
  simp [loads, load]
set_option maxHeartbeats 4000000 in
theorem greatest_c (A : Option Addr) (c : Nat) (xs : List Int) (w : World) (B : Nat) (h : IS w B A xs) (hl : xs.length ≤ 1048576) :
    Calls Tryd.prog 54 #[.slice A xs.length c] w fun e w' => e = .returned (.int .i64 (top xs xs.length)) ∧ w = w' := by
  go_enter Tryd.func54, Tryd.ntmps54
  go_wp2
  go_loop [3, 8] (fun m i => ∃ k : Nat, k ≤ xs.length ∧ i = .int .i64 k ∧ m = .int .i64 (top xs k)) (fun _ i => xs.length - (intOf i).toNat)
  case atStart => exact ⟨0, Nat.zero_le _, rfl, rfl⟩
  case round =>
    obtain ⟨k, hk, rfl, rfl⟩ := hrel
    by_cases hlt : k < xs.length
    · obtain ⟨b, off, rfl, hbl, hcc⟩ := h.at0_ (by omega)
      have hck := hcc k hlt
      clear hcc
      go_wp2
      go_round
      case rel => exact ⟨k + 1, by omega, by go_num, rfl⟩
      case measure => simp [intOf]; omega
    · obtain rfl : k = xs.length := by omega
      go_wp2
      go_ret
      exact ⟨rfl, rfl⟩
theorem Blk.at0B {w : World} {g : Nat} {xs : List Int} (h : Blk w g 3 (ints xs)) (k : Nat) (hk : k < xs.length) : w.cell? ⟨g, k, none⟩ = some (.int .i64 (at0 xs k)) := by
  rw [h.cell k (by rw [ints_length]; exact hk), ← at0_eq hk]; simp [ints]
theorem Blk.setB {w : World} {g : Nat} {xs : List Int} (h : Blk w g 3 (ints xs)) (k : Nat) (x : Int) : Blk (w.setCell ⟨g, k, none⟩ (.int .i64 x)) g 3 (ints (xs.set k x)) := by
  have := h.set_ k (.int .i64 x)
  simpa [ints, List.map_set] using this
theorem Blk.likeB {w w' : World} {g : Nat} {t : TypeId} {cs : List Value} (h : Blk w g t cs) (e : w'.heap = w.heap) : Blk w' g t cs := by unfold Blk at *; rw [e]; exact h
theorem Blk.isB {w : World} {g : Nat} {xs : List Int} (h : Blk w g 3 (ints xs)) : IS w w.heap.size (some ⟨g, 0, none⟩) xs :=
  IS.mk fun _ => ⟨g, 0, rfl, h.lt, fun j hj => by rw [Nat.zero_add, h.cell j (by rw [ints_length]; exact hj)]; simp [ints]⟩
set_option maxRecDepth 20000 in
set_option maxHeartbeats 1000000 in
theorem impl_burnEnd (A A2 : Option Addr) (c c2 : Nat) (xs on : List Int) (m : Int) (w : World) (h : IS w w.heap.size A xs) (h2 : IS w w.heap.size A2 on) (hl : xs.length ≤ 1048576) (hl2 : on.length ≤ 1048576) (hm : -1000 ≤ m ∧ m ≤ 1000) :
    Calls Tryd.prog 18 #[.slice A xs.length c, .int .i64 m, .slice A2 on.length c2] w fun e w' => e = .returned (.int .i64 (bEnd xs m on)) ∧ Below w.heap.size w w' := by
  cases hb : burnB xs m on
  · have HE := Lib.hid (bEnd_no hb)
    go_enter Tryd.func18, Tryd.ntmps18
    go_wp2_with (go_at_call 14; refine (impl_burnOk A A2 c c2 xs on m _ _ _ h h2 hl hl2 hm).mono ?_; rintro e w1 ⟨rfl, rfl⟩)
    go_ret
    exact ⟨ret_int HE.out.symm, Below.refl _ _⟩
  · have HE := Lib.hid (bEnd_yes hb)
    obtain ⟨p1, p2, p3, p4⟩ := burn_parts hb
    obtain ⟨M, rfl⟩ : ∃ M : Nat, m = M := ⟨m.toNat, by omega⟩
    have h6 := spans_len p2
    have HON := Lib.hid (fun k hk => on_at p1 k hk)
    have HSB := Lib.hid (fun k => spans_bound p2 k)
    have HLB := Lib.hid (fun b n => load_bound p2 on b n)
    have hmk := run_make_row' (P := Tryd.prog) 23 3 (.int .i64 0) 8 Tryd.underlying23 int_info rfl .i64 .i64 M (by omega) (by omega)
    have p41 : on.length ≤ xs.length := by rw [p4]; exact Nat.le_refl _
    have p42 : xs.length ≤ on.length := by rw [p4]; exact Nat.le_refl _
    have P4 := Lib.hid p4
    clear p1 p2 p4
    go_enter Tryd.func18, Tryd.ntmps18
    go_wp2_with (go_at_call 14; refine (impl_burnOk A A2 c c2 xs on (M : Int) _ _ _ h h2 hl hl2 hm).mono ?_; rintro e w1 ⟨rfl, rfl⟩)
    clear hmk hb
    go_loopw [19] (fun i wr => ∃ k : Nat, k ≤ xs.length ∧ i = .int .i64 k ∧ Blk wr w.heap.size 3 (ints (loads xs on M k)) ∧ Below w.heap.size w wr) (fun i _ => xs.length - (intOf i).toNat)
    case atStart => exact ⟨0, Nat.zero_le _, rfl, by rw [loads_start, ints_replicate, ← filled_nil]; exact blk_made w _ _ _, below_al (Below.refl _ _) _⟩
    case round =>
      obtain ⟨k, hk, rfl, hB, hW⟩ := hrel
      by_cases hlt : k < xs.length
      · obtain ⟨b, off, rfl, hbl, hcc⟩ := (IS.below h hW).at0_ (by omega)
        obtain ⟨b', off', rfl, hbl', hcc'⟩ := (IS.below h2 hW).at0_ (by omega)
        have e1 := hcc k hlt
        have e2 := hcc' k (by omega)
        have hin := HON.out k (by omega)
        obtain ⟨a, hai⟩ : ∃ a : Nat, at0 on k = a := ⟨(at0 on k).toNat, by omega⟩
        have HSET := Lib.hid (loads_set (xs := xs) (M := M) k a hai (by omega))
        rw [hai] at e2 hin
        have e3 := hB.at0B a (by rw [loads_length]; omega)
        rw [loads_at _ _ _ _ _ (by omega)] at e3
        have f3 := hB.frozen a
        have hb1 := HLB.out a k
        have hb2 := HSB.out k
        have HB2 := Lib.hid (hB.setB a (load xs on a k + at0 xs k))
        have haz : (a : Int) < (M : Int) := by omega
        have hne : b ≠ w.heap.size := by omega
        have hne' : b' ≠ w.heap.size := by omega
        clear hcc hcc' hB hai
        generalize load xs on a k = q at *
        generalize at0 xs k = y at *
        go_wp2
        go_roundw
        case rel => exact ⟨k + 1, by omega, by go_num, by rw [← HSET.out]; exact HB2.out, hW.setCell (Nat.le_refl _) _⟩
        case measure => (simp [intOf]) <;> omega
      · obtain rfl : k = xs.length := by omega
        have hlz : (loads xs on M xs.length).length = M := loads_length _ _ _ _
        have hx := greatest_c (some ⟨w.heap.size, 0, none⟩) M (loads xs on M xs.length) wr _ hB.isB (by rw [hlz]; omega)
        rw [hlz] at hx
        have HX := Lib.hid hx
        have HMM : Hid ((M : Int).toNat = M) := Lib.hid (Int.toNat_natCast M)
        clear hx hB hlz
        go_wp2_with fail
        refine HX.out.mono ?_
        rintro e w9 ⟨rfl, rfl⟩
        go_wp2
        go_ret
        exact ⟨ret_int (by rw [HE.out, HMM.out]), hW⟩
set_option maxRecDepth 20000 in
set_option maxHeartbeats 1000000 in
theorem spec_burnEnd (A A2 : Option Addr) (c c2 : Nat) (xs on : List Int) (m : Int) (w : World) (h : IS w w.heap.size A xs) (h2 : IS w w.heap.size A2 on) (hl : xs.length ≤ 1048576) (hl2 : on.length ≤ 1048576) (hm : -1000 ≤ m ∧ m ≤ 1000) :
    Calls Tryd.prog 19 #[.slice A xs.length c, .int .i64 m, .slice A2 on.length c2] w fun e w' => e = .returned (.int .i64 (bEnd xs m on)) ∧ w = w' := by
  cases hb : burnB xs m on
  · have HE := Lib.hid (bEnd_no hb)
    go_enter Tryd.func19, Tryd.ntmps19
    go_wp2_with (go_at_call 15; refine (spec_burnOk A A2 c c2 xs on m _ _ _ h h2 hl hl2 hm).mono ?_; rintro e w1 ⟨rfl, rfl⟩)
    go_ret
    exact ⟨ret_int HE.out.symm, rfl⟩
  · have HE := Lib.hid (bEnd_yes hb)
    obtain ⟨p1, p2, p3, p4⟩ := burn_parts hb
    obtain ⟨M, rfl⟩ : ∃ M : Nat, m = M := ⟨m.toNat, by omega⟩
    have h6 := spans_len p2
    have HSB := Lib.hid (fun k => spans_bound p2 k)
    have HLB := Lib.hid (fun b n => load_bound p2 on b n)
    have HM : Hid ((M : Int).toNat = M) := Lib.hid (Int.toNat_natCast M)
    rw [HM.out] at HE
    have p41 : on.length ≤ xs.length := by rw [p4]; exact Nat.le_refl _
    have p42 : xs.length ≤ on.length := by rw [p4]; exact Nat.le_refl _
    have P4 := Lib.hid p4
    clear p1 p2 p4
    go_enter Tryd.func19, Tryd.ntmps19
    go_wp2_with (go_at_call 15; refine (spec_burnOk A A2 c c2 xs on (M : Int) _ _ _ h h2 hl hl2 hm).mono ?_; rintro e w1 ⟨rfl, rfl⟩)
    clear hb
    go_loop [7, 8] (fun s i => ∃ b : Nat, b ≤ M ∧ i = .int .i64 b ∧ s = .int .i64 (top (loads xs on M xs.length) b)) (fun _ i => M - (intOf i).toNat)
    case atStart => exact ⟨0, Nat.zero_le _, rfl, rfl⟩
    case round =>
      obtain ⟨b, hbM, rfl, rfl⟩ := hrel
      by_cases hlt : b < M
      · have HT : Hid (top (loads xs on M xs.length) (b + 1) = max (top (loads xs on M xs.length) b) (load xs on b xs.length)) := Lib.hid (by rw [top, loads_at _ _ _ _ _ hlt])
        have ht0 := top_nonneg (loads xs on M xs.length) b
        generalize top (loads xs on M xs.length) b = tp at *
        go_wp2
        go_loop [9, 10] (fun s i => ∃ k : Nat, k ≤ on.length ∧ i = .int .i64 k ∧ s = .int .i64 (load xs on b k)) (fun _ i => on.length - (intOf i).toNat)
        case atStart => exact ⟨0, Nat.zero_le _, rfl, rfl⟩
        case round =>
          obtain ⟨k, hk, rfl, rfl⟩ := hrel
          by_cases hlt2 : k < on.length
          · obtain ⟨b1, off, rfl, hbl, hcc⟩ := h.at0_ (by omega)
            obtain ⟨b2, off2, rfl, hbl2, hcc2⟩ := h2.at0_ (by omega)
            have e1 := hcc k (by omega)
            have e2 := hcc2 k hlt2
            have hb1 := HLB.out b k
            have hb2 := HSB.out k
            have HLS := Lib.hid (load_succ xs on b k)
            clear hcc hcc2
            generalize load xs on b k = q at *
            generalize at0 xs k = y at *
            generalize at0 on k = z at *
            by_cases hz : z = (b : Int)
            · subst hz
              rw [if_pos rfl] at HLS
              go_wp2
              go_round
              case rel => exact ⟨k + 1, by omega, by go_num, by rw [HLS.out]⟩
              case measure => (simp [intOf]) <;> omega
            · rw [if_neg hz, Int.add_zero] at HLS
              have hzb : (z == (b : Int)) = false := by rw [beq_eq_false_iff_ne]; exact hz
              go_wp2
              go_round
              case rel => exact ⟨k + 1, by omega, by go_num, by rw [HLS.out]⟩
              case measure => (simp [intOf]) <;> omega
          · have hkx : k = xs.length := by omega
            subst hkx
            have hb1 := HLB.out b xs.length
            generalize load xs on b xs.length = q at *
            go_wp2
            go_round
            case rel => exact ⟨b + 1, by omega, by go_num, by rw [HT.out]⟩
            case measure => (simp [intOf]) <;> omega
      · obtain rfl : b = M := by omega
        go_wp2
        go_ret
        exact ⟨ret_int HE.out.symm, rfl⟩
end Go.Proofs.YtjicpdleacnlaaaDoor
