/- Copies of a kitchen; WorkStep of the program. -/
import Derived.Test.YthbledeghanffaaDoorWork1
set_option linter.unusedVariables false
set_option linter.unusedSimpArgs false
namespace Go.Proofs.YthbledeghanffaaDoor
open Go.ChangeShapes Go.WideShapes Go.ChangeAt Go.RowKit

set_option maxHeartbeats 4000000 in
theorem copyKitchen_any (A : Option Addr) (c : Nat) (ks : List (List Ord)) (w : World) (h : SK w w.heap.size A ks) (hl : ks.length + total ks ≤ 1048576) :
    Calls Tryd.prog 66 #[.slice A ks.length c] w (RetK w ks) := by
  by_cases hz : 0 < ks.length
  · have hz1 : ((ks.length : Int) == 0) = false := by simp; intro e; rw [e] at hz; simp at hz
    have hmk := run_make_row' (P := Tryd.prog) 35 25 (.slice none 0 0) 24 Tryd.underlying35 sl_info rfl .i64 .i64 ks.length (by omega) (by omega)
    go_enter Tryd.func66, Tryd.ntmps66
    go_wp2
    clear hmk hz1
    go_loopw [14] (fun i wr => ∃ (k : Nat) (vs : List Value), k ≤ ks.length ∧ i = .int .i64 k ∧ vs.length = k ∧ Blk wr w.heap.size 25 (filled (.slice none 0 0) vs ks.length) ∧ Inn wr w.heap.size vs (rowsOf (ks.take k)) ∧ Below w.heap.size w wr) (fun i _ => ks.length - (intOf i).toNat)
    case atStart => exact ⟨0, [], Nat.zero_le _, rfl, rfl, blk_made w _ _ _, Inn.nil _ _, (Below.refl _ _).alloc (Nat.le_refl _) _⟩
    case round =>
      obtain ⟨k, vs, hk, rfl, hvs, hB, hI, hW⟩ := hrel
      have HVS := Lib.hid hvs
      clear hvs
      by_cases hlt : k < ks.length
      · obtain ⟨b, off, rfl, hbl, hc⟩ := (h.below hW) (by omega)
        obtain ⟨Aj, cj, hcell, hso, -⟩ := hc k hlt
        have hlj := len_le_total ks k hlt
        clear hc
        go_wp2_with fail
        refine (copyTicket_any _ _ _ _ (hso.more hW.size) (by omega)).mono ?_
        rintro e w1 ⟨v1, rfl, o1, b1⟩
        have hW1 := below_step hW b1
        have hB1 := hB.below b1 hB.lt
        obtain ⟨hg1, hg2⟩ := hB1.fillAt HVS.out hlt
        have hI1 := hI.push b1 o1 hW.size
        rw [← rows_take_succ ks k hlt] at hI1
        obtain ⟨A1, c1, rfl, -⟩ := own_form o1
        have hB2 := hB1.fill HVS.out hlt (.slice A1 ks[k].length c1)
        have hI2 : Inn (w1.setCell ⟨w.heap.size, k, none⟩ (.slice A1 ks[k].length c1)) w.heap.size (vs ++ [.slice A1 ks[k].length c1]) (rowsOf (ks.take (k + 1))) := hI1.keep fun g cc hg => by
          refine Below.heap_setCell _ _ _ _ ?_
          intro e
          subst e
          have hx := hB1
          unfold Blk at hx
          rw [hg] at hx
          injection hx with hx
          injection hx with _ hx _
          exact types_differ hx.symm
        have HB2 := Lib.hid hB2
        have HI2 := Lib.hid hI2
        clear hB hB1 hB2 hI hI1 hI2 o1 hso
        go_wp2
        go_roundw
        case rel => exact ⟨k + 1, _, by omega, by go_num, by rw [List.length_append, HVS.out]; rfl, HB2.out, HI2.out, hW1.setCell (Nat.le_refl _) _⟩
        case measure => simp [intOf]; omega
      · obtain rfl : k = ks.length := by omega
        rw [List.take_length] at hI
        rw [filled_all _ _ _ HVS.out] at hB
        have hO : OK wr w.heap.size (.slice (some ⟨w.heap.size, 0, none⟩) ks.length ks.length) (rowsOf ks) := ⟨vs, by rw [rowsOf_length]; exact hB.own (Nat.le_refl _) (by rw [HVS.out, Nat.mul_one]) (by simp [maxLen]; omega), hI⟩
        have HO := Lib.hid hO
        clear hO hB hI
        go_wp2
        go_ret
        exact ⟨_, rfl, HO.out, hW⟩
  · have hx : ks = [] := List.eq_nil_of_length_eq_zero (by omega)
    subst hx
    go_enter Tryd.func66, Tryd.ntmps66
    go_wp2
    go_ret
    exact ⟨_, rfl, OK.nil _ _, Below.refl _ _⟩

theorem sl_EI : EI Tryd.prog 35 25 1 24 := EI.mk Tryd.underlying35 sl_info rfl (by omega)
theorem Inn.outer {w w' : World} {lo lo' n : Nat} {v : Value} {vs us : List Value} {rows : List Row} (h : Inn w lo vs rows) (ho : w.ownsRow lo' 25 1 v n us) (hg : w.grownBy w' v.ownBlock) : Inn w' lo vs rows :=
  h.keep fun g c hc => hg.block g (lt_of_block hc) fun e => by
    obtain ⟨c1, t1⟩ := own_type ho e.symm
    rw [hc] at t1
    injection t1 with t1
    injection t1 with _ t1 _
    exact types_differ t1.symm
set_option maxHeartbeats 4000000 in
theorem l4Copy_any (A : Option Addr) (c : Nat) (ks : List (List Ord)) (w : World) (h : SK w w.heap.size A ks) (hl : ks.length + total ks ≤ 1048576) :
    Calls Tryd.prog 68 #[.slice A ks.length c] w (RetK w ks) := by
  go_enter Tryd.func68, Tryd.ntmps68
  go_wp2
  go_loopw [3, 4] (fun v i wr => ∃ (k : Nat) (v0 : Value) (vs : List Value), k ≤ ks.length ∧ v0 = v ∧ i = .int .i64 k ∧ wr.ownsRow w.heap.size 25 1 v0 k vs ∧ Inn wr w.heap.size vs (rowsOf (ks.take k)) ∧ Below w.heap.size w wr) (fun _ i _ => ks.length - (intOf i).toNat)
  case atStart => exact ⟨0, _, [], Nat.zero_le _, rfl, rfl, own_empty w _ 1 _ (Nat.le_refl _), Inn.nil _ _, (Below.refl _ _).alloc (Nat.le_refl _) _⟩
  case round =>
    obtain ⟨k, v, vs, hk, rfl, rfl, hO, hI, hW⟩ := hrel
    by_cases hlt : k < ks.length
    · obtain ⟨b, off, rfl, hbl, hc⟩ := (h.below hW) (by omega)
      obtain ⟨Aj, cj, hcell, hso, -⟩ := hc k hlt
      have hlj := len_le_total ks k hlt
      have hsz := hW.size
      have hbw : b < wr.heap.size := by omega
      have hs1 : RV (wr.alloc (.cells #[] 30)) w.heap.size Aj (ords ks[k]) := hso.keep fun p hp => World.cell?_alloc_lt _ _ _ (Nat.lt_of_lt_of_le hp hsz)
      have HRT := Lib.hid (rows_take_succ ks k hlt)
      have HO := Lib.hid hO
      have HI := Lib.hid hI
      clear hc hO hI
      generalize ks[k] = os at *
      go_wp2_with (first | (at_builtin; refine wpList_app _ rfl (.tmp 13) (.tmp 17) 25 rfl ord_EI wr.heap.size (.slice (some ⟨wr.heap.size, 0, none⟩) 0 0) 0 [] rfl (own_empty _ _ 2 _ (Nat.le_refl _)) Aj os.length cj (ords os) rfl (ords_length os) hs1 (ords_one os) (le_max (by omega)) (by omega) (by simp) ?_; intro v2 w2 hO2 hg2 _; have b2 : Below wr.heap.size wr w2 := below_app (below_al (Below.refl _ _) _) (own_empty _ _ 2 _ (Nat.le_refl _)) hg2; obtain ⟨A2, c2, rfl, -⟩ := own_form (own_nil_app hO2)) | (at_builtin; refine wpList_app _ rfl (.tmp 12) (.tmp 19) 35 rfl sl_EI w.heap.size v k vs rfl ((own_below HO.out b2).alloc _) (some ⟨w2.heap.size, 0, none⟩) 1 1 [.slice A2 os.length c2] rfl rfl (rv_new _ _ _) (one_slice _ _ _) (le_max (by omega)) (by omega) (below_al (below_step hW b2) _).size ?_; intro v4 w4 hO4 hg4 _))
      go_roundw
      case rel => exact ⟨k + 1, _, _, by omega, rfl, by go_num, hO4, by rw [HRT.out]; exact Inn.outer ((HI.out.push b2 (own_nil_app hO2) hsz).below (below_al (Below.refl _ _) _)) ((own_below HO.out b2).alloc _) hg4, below_app (below_al (below_step hW b2) _) ((own_below HO.out b2).alloc _) hg4⟩
      case measure => simp [intOf]; omega
    · obtain rfl : k = ks.length := by omega
      rw [List.take_length] at hI
      have HO := Lib.hid (show OK wr w.heap.size v (rowsOf ks) from ⟨vs, by rw [rowsOf_length]; exact hO, hI⟩)
      clear hO hI
      go_wp2
      go_ret
      exact ⟨_, rfl, HO.out, hW⟩
end Go.Proofs.YthbledeghanffaaDoor
