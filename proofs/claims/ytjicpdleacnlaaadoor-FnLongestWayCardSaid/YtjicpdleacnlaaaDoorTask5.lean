/- StartsLate: what the program and the reference compute. -/
import Derived.Test.YtjicpdleacnlaaaDoorTask4
set_option linter.unusedVariables false
set_option linter.unusedSimpArgs false
namespace Go.Proofs.YtjicpdleacnlaaaDoor
open Go.ChangeShapes Go.WideShapes Go.ChangeAt Go.RowKit

set_option maxRecDepth 20000 in
set_option maxHeartbeats 8000000 in
theorem spec_startsLate (A : Option Addr) (c : Nat) (ts : List Tsk) (w : World) (h : ST w w.heap.size A ts) (hl : ts.length + totT ts ≤ 1048576) :
    Calls Tryd.prog 41 #[.slice A ts.length c] w (RetI w (lateF ts)) := by
  cases hs : tasksB ts
  · have HE := Lib.hid (lateF_no hs)
    have HEN := Lib.hid (endF_no hs)
    have hp := tasks_nil_pos hs
    go_enter Tryd.func41, Tryd.ntmps41
    go_wp2_with fail
    refine (spec_tasksEnd A c ts _ ((h.below (below_al (Below.refl _ _) _)).more (below_al (Below.refl _ _) _).size) hl).mono ?_
    rintro e w1 ⟨rfl, b1⟩
    rw [HEN.out]
    have hO := Lib.hid (own_below (own_empty w 3 1 _ (Nat.le_refl _)) b1)
    have bel := below_step (below_al (Below.refl _ _) _) b1
    have hd : decide ((0 : Int) ≤ -1) = false := by decide
    go_wp2
    go_loop [3, 5] (fun v s => v = .slice (some ⟨w.heap.size, 0, none⟩) 0 0 ∧ s = .int .i64 0) (fun _ _ => 0)
    case atStart => exact ⟨rfl, rfl⟩
    case round =>
      obtain ⟨rfl, rfl⟩ := hrel
      go_wp2
      go_loop [6] (fun s => s = .int .i64 (-1)) (fun _ => 0)
      case atStart => exact rfl
      case round =>
        subst hrel
        go_wp2
        go_ret
        exact ⟨_, rfl, by rw [HE.out]; exact hO.out, bel⟩
  · have HE := Lib.hid (lateF_yes hs)
    have HS := Lib.hid hs
    have h7 := tasks_len hs
    have HEB := Lib.hid (endF_bound hs)
    clear hs
    go_enter Tryd.func41, Tryd.ntmps41
    go_wp2_with fail
    refine (spec_tasksEnd A c ts _ ((h.below (below_al (Below.refl _ _) _)).more (below_al (Below.refl _ _) _).size) hl).mono ?_
    rintro e w1 ⟨rfl, b1⟩
    have hO := own_below (own_empty w 3 1 _ (Nat.le_refl _)) b1
    have bel := below_step (below_al (Below.refl _ _) _) b1
    obtain ⟨he0, he1⟩ := HEB.out
    have HL0 := Lib.hid (late0_succ ts)
    have HLL := Lib.hid (late0_length ts)
    obtain ⟨E, hEE⟩ : ∃ E, endF ts = E := ⟨_, rfl⟩
    rw [hEE] at he0 he1 HL0 ⊢
    go_wp2
    go_loopw [3, 5] (fun v s wr => ∃ (k : Nat) (v0 : Value), k ≤ ts.length ∧ v0 = v ∧ s = .int .i64 (k : Int) ∧ OI wr w.heap.size v0 (late0 ts k) ∧ Below w.heap.size w wr) (fun _ s _ => ts.length - (intOf s).toNat)
    case atStart => exact ⟨0, _, by omega, rfl, by go_num, hO, bel⟩
    case round =>
      clear hO bel
      obtain ⟨k, v, hk, rfl, rfl, hO, hW⟩ := hrel
      by_cases hlt : k < ts.length
      · obtain ⟨b, off, rfl, hbl, hc⟩ := (h.below hW).atT (by omega)
        obtain ⟨hck0, -⟩ := hc k hlt
        have hsp := task_span HS.out k
        have HLS := Lib.hid (HL0.out k)
        have hll := HLL.out k
        unfold OI at hO
        rw [hll] at hO
        clear hc
        generalize (tat ts k).1 = y at *
        go_wp2_with (at_builtin; refine wpList_app _ rfl (.tmp 22) (.tmp 30) 23 rfl int_EIT w.heap.size v k _ rfl (hO.alloc _) (some ⟨_, 0, none⟩) 1 1 [.int .i64 (E - y)] rfl rfl (rv_new _ _ _) (one1 _) (le_max (by omega)) (by omega) (below_al hW _).size ?_; intro v3 w3 hO3 hg3 _)
        go_roundw
        case rel => exact ⟨k + 1, _, by omega, rfl, by go_num, by rw [HLS.out]; exact oi_pushT (by rw [HLL.out]; exact hO3), below_app (below_al hW _) (hO.alloc _) hg3⟩
        case measure => (simp [intOf]) <;> omega
      · obtain rfl : k = ts.length := by omega
        have hll := HLL.out ts.length
        unfold OI at hO
        rw [hll] at hO
        obtain ⟨A2, cap, rfl, -⟩ := own_form hO
        have HEE := Lib.hid hEE
        by_cases hp : 0 < ts.length
        · obtain ⟨g, rfl, hgb⟩ := own_head hO hp
          have hS : wr.ownsRow w.heap.size 3 1 (.slice (some ⟨g, 0, none⟩) ts.length cap) ts.length (ints (lateK ts 0)) := hO
          have hBel := hW
          clear hO hW hk hlt HL0 HLL hEE hll
          go_wp2
          go_loopw [6] (fun i wr => ∃ t : Nat, t ≤ ts.length ∧ i = .int .i64 ((ts.length : Int) - (t : Int) - 1) ∧ wr.ownsRow w.heap.size 3 1 (.slice (some ⟨g, 0, none⟩) ts.length cap) ts.length (ints (lateK ts t)) ∧ Below w.heap.size w wr) (fun i _ => (intOf i + 1).toNat)
          case atStart => exact ⟨0, Nat.zero_le _, by first | rfl | go_num | (congr 1; omega), hS, hBel⟩
          case round =>
            obtain ⟨t, ht, rfl, hO, hW⟩ := hrel
            obtain ⟨wo, rfl⟩ : ∃ wo : World, wo = wr := ⟨_, rfl⟩
            by_cases hlt : t < ts.length
            · obtain ⟨ii, hii⟩ : ∃ ii : Nat, (ts.length : Int) - (t : Int) - 1 = ii := ⟨ts.length - 1 - t, by omega⟩
              have hiin : ii < ts.length := by omega
              have hieq : ts.length - 1 - t = ii := by omega
              have HLK := Lib.hid (show lateK ts (t + 1) = pull ts ii (tat ts ii).2 (lateK ts t) (tat ts ii).2.length by rw [lateK, hieq])
              have HNX := Lib.hid (show ((ii : Nat) : Int) - 1 = (ts.length : Int) - ((t + 1 : Nat) : Int) - 1 by omega)
              have HLB := Lib.hid (fun j a => pull_bound HS.out ii (tat ts ii).2 (lateK ts t) (30 + 210 * t) 240 (by omega) (fun a => by have := lateK_bound HS.out t (by omega) a; omega) j a)
              have HAFT := Lib.hid (fun j hj => task_after HS.out ii hiin j hj)
              have HAL := Lib.hid (after_len HS.out ii hiin)
              have HSP := Lib.hid (task_span HS.out)
              have HPL := Lib.hid (fun j => (pull_length ts ii (tat ts ii).2 (lateK ts t) j).trans (lateK_length ts t))
              rw [hii]
              have HII := Lib.hid hii
              clear hii hieq
              obtain ⟨b, off, rfl, hbl, hc⟩ := (h.below hW).atT (by omega)
              obtain ⟨hck0, Aj, cj, hck1, hso⟩ := hc ii hiin
              have hlj := len_le_totT ts ii hiin
              rw [tat_eq hiin] at hlj
              have HO := Lib.hid hO
              have HH := Lib.hid h
              have HSO := Lib.hid hso
              clear hc hO h
              generalize (tat ts ii).2 = xs at *
              go_wp2
              go_loopw [7] (fun i wx => ∃ j : Nat, j ≤ xs.length ∧ i = .int .i64 j ∧ wx.ownsRow w.heap.size 3 1 (.slice (some ⟨g, 0, none⟩) ts.length cap) ts.length (ints (pull ts ii xs (lateK ts t) j)) ∧ Below w.heap.size w wx ∧ Hid (∀ p : Addr, p.block < w.heap.size → wx.cell? p = wo.cell? p)) (fun i _ => xs.length - (intOf i).toNat)
              case atStart => exact ⟨0, Nat.zero_le _, rfl, HO.out, hW, Lib.hid (fun _ _ => rfl)⟩
              case round =>
                obtain ⟨j, hj, rfl, hO, hW2, HKP⟩ := hrel
                obtain ⟨b', off', hbo, hbl', hc⟩ := (HH.out.below hW2).atT (by omega)
                injection hbo with hbo
                injection hbo with hbo1 hbo2 _
                subst hbo1 hbo2
                obtain ⟨hck0', -⟩ := hc ii hiin
                have hck1' : wr.cell? ⟨b, off + ii * 2 + 1, none⟩ = some (.slice Aj xs.length cj) := by rw [HKP.out _ hbl]; exact hck1
                by_cases hlt2 : j < xs.length
                · obtain ⟨b2, off2, rfl, hbl2, hc2⟩ := (show IS wr w.heap.size Aj xs from RV.keep HSO.out HKP.out).at0_ (by omega)
                  have hx := hc2 j hlt2
                  obtain ⟨a, hai⟩ : ∃ a : Nat, at0 xs j = a := ⟨(at0 xs j).toNat, by have := HAFT.out j hlt2; omega⟩
                  have hak : a < ii := by have := HAFT.out j hlt2; omega
                  have HAI := Lib.hid hai
                  rw [hai] at hx
                  obtain ⟨hz, -⟩ := hc a (by omega)
                  have hpl := HPL.out j
                  obtain ⟨hy, hfr⟩ := row_at0 hO a (by omega)
                  obtain ⟨hy2, -⟩ := row_at0 hO ii (by omega)
                  have HST : Hid (pull ts ii xs (lateK ts t) (j + 1) = (pull ts ii xs (lateK ts t) j).set a (min (at0 (pull ts ii xs (lateK ts t) j) a) (at0 (pull ts ii xs (lateK ts t) j) ii - (tat ts a).1))) := Lib.hid (by rw [pull, HAI.out]; rfl)
                  have HO2 := Lib.hid (row_set hO a (min (at0 (pull ts ii xs (lateK ts t) j) a) (at0 (pull ts ii xs (lateK ts t) j) ii - (tat ts a).1)))
                  have hbd1 := HLB.out j a
                  have hbd3 := HLB.out j ii
                  have hbd2 := HSP.out a
                  have hat : a < ts.length := by omega
                  have hal := HAL.out
                  clear hc2 hc hai hO hpl
                  generalize at0 (pull ts ii xs (lateK ts t) j) a = x at *
                  generalize at0 (pull ts ii xs (lateK ts t) j) ii = z at *
                  generalize (tat ts a).1 = y at *
                  have hgb2 := hgb
                  have hwp : IntKind.i64.wrap (z - y) = z - y := by rw [IntKind.wrap_i64]; omega
                  go_wp2_with fail
                  go_still_tail 18, (by kernel_rfl)
                  clear hwp
                  go_wp2
                  go_roundw
                  case rel => exact ⟨j + 1, by omega, by go_num, by rw [HST.out]; exact own_likeT HO2.out rfl, below_like (X := wr.setCell ⟨g, a, none⟩ (.int .i64 (min x (z - y)))) (hW2.setCell hgb2 _) rfl, Lib.hid (fun p hp => ((below_like ((Below.refl w.heap.size wr).setCell (p := ⟨g, a, none⟩) hgb2 (.int .i64 (min x (z - y)))) rfl).cell hp).trans (HKP.out p hp))⟩
                  case measure => (simp [intOf]) <;> omega
                · obtain rfl : j = xs.length := by omega
                  have HO2 := Lib.hid hO
                  clear hO hc
                  go_wp2
                  go_roundw
                  case rel => exact ⟨t + 1, by omega, by first | rfl | rw [← HNX.out], by rw [HLK.out]; exact HO2.out, hW2⟩
                  case measure => (simp [intOf]) <;> omega
            · obtain rfl : t = ts.length := by omega
              have HO := Lib.hid hO
              clear hO
              have hneg : ((ts.length : Int) - (ts.length : Int) - 1) = -1 := by omega
              rw [hneg]
              go_wp2
              go_ret
              refine ⟨_, rfl, ?_, hW⟩
              rw [HE.out, OI, lateK_length]
              exact HO.out
        · have hx : ts = [] := List.eq_nil_of_length_eq_zero (by omega)
          subst hx
          have HO := Lib.hid hO
          clear hO hEE hll
          go_wp2
          go_loop [6] (fun s => s = .int .i64 (-1)) (fun _ => 0)
          case atStart => exact rfl
          case round =>
            subst hrel
            go_wp2
            go_ret
            exact ⟨_, rfl, by rw [HE.out]; exact HO.out, hW⟩

set_option maxRecDepth 20000 in
set_option maxHeartbeats 8000000 in
theorem impl_startsLate (A : Option Addr) (c : Nat) (ts : List Tsk) (w : World) (h : ST w w.heap.size A ts) (hl : ts.length + totT ts ≤ 1048576) :
    Calls Tryd.prog 40 #[.slice A ts.length c] w (RetI w (lateF ts)) := by
  cases hs : tasksB ts
  · have HE := Lib.hid (lateF_no hs)
    go_enter Tryd.func40, Tryd.ntmps40
    go_wp2_with (go_at_call 30; refine (impl_tasksValid A c ts _ h hl).mono ?_; rintro e w1 ⟨rfl, b1⟩)
    go_ret
    exact ⟨_, rfl, by rw [HE.out]; exact OI.nil _ _, b1⟩
  · have HE := Lib.hid (lateF_yes hs)
    have HS := Lib.hid hs
    have h7 := tasks_len hs
    have HEB := Lib.hid (endF_bound hs)
    have hmk := run_make_row' (P := Tryd.prog) 23 3 (.int .i64 0) 8 Tryd.underlying23 int_info rfl .i64 .i64 ts.length (by omega) (by omega)
    go_enter Tryd.func40, Tryd.ntmps40
    go_wp2_with (go_at_call 30; refine (impl_tasksValid A c ts _ h hl).mono ?_; rintro e w1 ⟨rfl, b1⟩)
    clear hs
    go_wp2_with fail
    refine (impl_tasksEnd A c ts _ ((h.below b1).more b1.size) hl).mono ?_
    rintro e w2 ⟨rfl, b2⟩
    have b3 := below_step b1 b2
    have b3s := b3.size
    obtain ⟨he0, he1⟩ := HEB.out
    have HL0 := Lib.hid (late0_succ ts)
    have HLL := Lib.hid (late0_length ts)
    obtain ⟨E, hEE⟩ : ∃ E, endF ts = E := ⟨_, rfl⟩
    rw [hEE] at he0 he1 HL0 ⊢
    have HEE := Lib.hid hEE
    clear hEE
    go_wp2
    clear hmk
    go_loopw [19] (fun i wr => ∃ k : Nat, k ≤ ts.length ∧ i = .int .i64 k ∧ Blk wr w2.heap.size 3 (filled (.int .i64 0) (ints (late0 ts k)) ts.length) ∧ Below w.heap.size w wr) (fun i _ => ts.length - (intOf i).toNat)
    case atStart => exact ⟨0, Nat.zero_le _, rfl, by simpa [ints, late0] using blk_made w2 _ _ _, below_al b3 _⟩
    case round =>
      obtain ⟨k, hk, rfl, hB, hW⟩ := hrel
      by_cases hlt : k < ts.length
      · obtain ⟨b, off, rfl, hbl, hc⟩ := (h.below hW).atT (by omega)
        obtain ⟨hck0, -⟩ := hc k hlt
        have hsp := task_span HS.out k
        have HLS := Lib.hid (HL0.out k)
        have hlk : (ints (late0 ts k)).length = k := by rw [ints_length]; exact HLL.out k
        obtain ⟨hg1, hg2⟩ := hB.fillAt hlk hlt
        have hB2 := hB.fill hlk hlt (.int .i64 (E - (tat ts k).1))
        have HB2 := Lib.hid (show Blk _ _ _ (filled (.int .i64 0) (ints (late0 ts (k + 1))) ts.length) by rw [HLS.out, ints_append]; exact hB2)
        clear hc hB hB2 hlk
        generalize (tat ts k).1 = y at *
        go_wp2
        go_roundw
        case rel => exact ⟨k + 1, by omega, by go_num, HB2.out, hW.setCell (by simpa using b3s) _⟩
        case measure => (simp [intOf]) <;> omega
      · obtain rfl : k = ts.length := by omega
        rw [filled_all _ _ _ (by rw [ints_length]; exact HLL.out _)] at hB
        have hS : wr.ownsRow w.heap.size 3 1 (.slice (some ⟨w2.heap.size, 0, none⟩) ts.length ts.length) ts.length (ints (lateK ts 0)) := hB.own b3s (by rw [ints_length, HLL.out, Nat.mul_one]) (by simp [maxLen]; omega)
        have hBel := hW
        have hgb := b3s
        obtain ⟨g, hgg⟩ : ∃ g, w2.heap.size = g := ⟨_, rfl⟩
        rw [hgg] at hS hgb
        obtain ⟨cap, hcap⟩ : ∃ cap, ts.length = cap := ⟨_, rfl⟩
        have hS2 : wr.ownsRow w.heap.size 3 1 (.slice (some ⟨g, 0, none⟩) ts.length cap) ts.length (ints (lateK ts 0)) := by rw [← hcap]; exact hS
        clear hS hB hW hk hlt HL0 HLL
        have hS := hS2
        clear hS2
        rw [hgg]
        subst hcap
        go_wp2
        go_loopw [6] (fun i wr => ∃ t : Nat, t ≤ ts.length ∧ i = .int .i64 ((ts.length : Int) - (t : Int) - 1) ∧ wr.ownsRow w.heap.size 3 1 (.slice (some ⟨g, 0, none⟩) ts.length ts.length) ts.length (ints (lateK ts t)) ∧ Below w.heap.size w wr) (fun i _ => (intOf i + 1).toNat)
        case atStart => exact ⟨0, Nat.zero_le _, by first | rfl | go_num | (congr 1; omega), hS, hBel⟩
        case round =>
          obtain ⟨t, ht, rfl, hO, hW⟩ := hrel
          obtain ⟨wo, rfl⟩ : ∃ wo : World, wo = wr := ⟨_, rfl⟩
          by_cases hlt : t < ts.length
          · obtain ⟨ii, hii⟩ : ∃ ii : Nat, (ts.length : Int) - (t : Int) - 1 = ii := ⟨ts.length - 1 - t, by omega⟩
            have hiin : ii < ts.length := by omega
            have hieq : ts.length - 1 - t = ii := by omega
            have HLK := Lib.hid (show lateK ts (t + 1) = pull ts ii (tat ts ii).2 (lateK ts t) (tat ts ii).2.length by rw [lateK, hieq])
            have HNX := Lib.hid (show ((ii : Nat) : Int) - 1 = (ts.length : Int) - ((t + 1 : Nat) : Int) - 1 by omega)
            have HLB := Lib.hid (fun j a => pull_bound HS.out ii (tat ts ii).2 (lateK ts t) (30 + 210 * t) 240 (by omega) (fun a => by have := lateK_bound HS.out t (by omega) a; omega) j a)
            have HAFT := Lib.hid (fun j hj => task_after HS.out ii hiin j hj)
            have HAL := Lib.hid (after_len HS.out ii hiin)
            have HSP := Lib.hid (task_span HS.out)
            have HPL := Lib.hid (fun j => (pull_length ts ii (tat ts ii).2 (lateK ts t) j).trans (lateK_length ts t))
            rw [hii]
            have HII := Lib.hid hii
            clear hii hieq
            obtain ⟨b, off, rfl, hbl, hc⟩ := (h.below hW).atT (by omega)
            obtain ⟨hck0, Aj, cj, hck1, hso⟩ := hc ii hiin
            have hlj := len_le_totT ts ii hiin
            rw [tat_eq hiin] at hlj
            have HO := Lib.hid hO
            have HH := Lib.hid h
            have HSO := Lib.hid hso
            clear hc hO h
            generalize (tat ts ii).2 = xs at *
            go_wp2
            go_loopw [46] (fun i wx => ∃ j : Nat, j ≤ xs.length ∧ i = .int .i64 j ∧ wx.ownsRow w.heap.size 3 1 (.slice (some ⟨g, 0, none⟩) ts.length ts.length) ts.length (ints (pull ts ii xs (lateK ts t) j)) ∧ Below w.heap.size w wx ∧ Hid (∀ p : Addr, p.block < w.heap.size → wx.cell? p = wo.cell? p)) (fun i _ => xs.length - (intOf i).toNat)
            case atStart => exact ⟨0, Nat.zero_le _, rfl, HO.out, hW, Lib.hid (fun _ _ => rfl)⟩
            case round =>
              obtain ⟨j, hj, rfl, hO, hW2, HKP⟩ := hrel
              obtain ⟨b', off', hbo, hbl', hc⟩ := (HH.out.below hW2).atT (by omega)
              injection hbo with hbo
              injection hbo with hbo1 hbo2 _
              subst hbo1 hbo2
              obtain ⟨hck0', -⟩ := hc ii hiin
              have hck1' : wr.cell? ⟨b, off + ii * 2 + 1, none⟩ = some (.slice Aj xs.length cj) := by rw [HKP.out _ hbl]; exact hck1
              by_cases hlt2 : j < xs.length
              · obtain ⟨b2, off2, rfl, hbl2, hc2⟩ := (show IS wr w.heap.size Aj xs from RV.keep HSO.out HKP.out).at0_ (by omega)
                have hx := hc2 j hlt2
                obtain ⟨a, hai⟩ : ∃ a : Nat, at0 xs j = a := ⟨(at0 xs j).toNat, by have := HAFT.out j hlt2; omega⟩
                have hak : a < ii := by have := HAFT.out j hlt2; omega
                have HAI := Lib.hid hai
                rw [hai] at hx
                obtain ⟨hz, -⟩ := hc a (by omega)
                have hpl := HPL.out j
                obtain ⟨hy, hfr⟩ := row_at0 hO a (by omega)
                obtain ⟨hy2, -⟩ := row_at0 hO ii (by omega)
                have HST : Hid (pull ts ii xs (lateK ts t) (j + 1) = (pull ts ii xs (lateK ts t) j).set a (min (at0 (pull ts ii xs (lateK ts t) j) a) (at0 (pull ts ii xs (lateK ts t) j) ii - (tat ts a).1))) := Lib.hid (by rw [pull, HAI.out]; rfl)
                have HO2 := Lib.hid (row_set hO a (min (at0 (pull ts ii xs (lateK ts t) j) a) (at0 (pull ts ii xs (lateK ts t) j) ii - (tat ts a).1)))
                have hbd1 := HLB.out j a
                have hbd3 := HLB.out j ii
                have hbd2 := HSP.out a
                have hat : a < ts.length := by omega
                have hal := HAL.out
                clear hc2 hc hai hO hpl
                generalize at0 (pull ts ii xs (lateK ts t) j) a = x at *
                generalize at0 (pull ts ii xs (lateK ts t) j) ii = z at *
                generalize (tat ts a).1 = y at *
                have hgb2 := hgb
                have hwp : IntKind.i64.wrap (z - y) = z - y := by rw [IntKind.wrap_i64]; omega
                go_wp2_with fail
                go_still_tail 18, (by kernel_rfl)
                clear hwp
                go_wp2
                go_roundw
                case rel => exact ⟨j + 1, by omega, by go_num, by rw [HST.out]; exact own_likeT HO2.out rfl, below_like (X := wr.setCell ⟨g, a, none⟩ (.int .i64 (min x (z - y)))) (hW2.setCell hgb2 _) rfl, Lib.hid (fun p hp => ((below_like ((Below.refl w.heap.size wr).setCell (p := ⟨g, a, none⟩) hgb2 (.int .i64 (min x (z - y)))) rfl).cell hp).trans (HKP.out p hp))⟩
                case measure => (simp [intOf]) <;> omega
              · obtain rfl : j = xs.length := by omega
                have HO2 := Lib.hid hO
                clear hO hc
                go_wp2
                go_roundw
                case rel => exact ⟨t + 1, by omega, by first | rfl | rw [← HNX.out], by rw [HLK.out]; exact HO2.out, hW2⟩
                case measure => (simp [intOf]) <;> omega
          · obtain rfl : t = ts.length := by omega
            have HO := Lib.hid hO
            clear hO
            have hneg : ((ts.length : Int) - (ts.length : Int) - 1) = -1 := by omega
            rw [hneg]
            go_wp2
            go_ret
            refine ⟨_, rfl, ?_, hW⟩
            rw [HE.out, OI, lateK_length]
            exact HO.out
end Go.Proofs.YtjicpdleacnlaaaDoor
