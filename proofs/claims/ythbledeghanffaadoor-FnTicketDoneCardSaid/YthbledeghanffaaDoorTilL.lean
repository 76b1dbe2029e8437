/- FnWorkLeft: the law's walk. -/
import Derived.Test.YthbledeghanffaaDoorDrawKs
import Derived.Test.YthbledeghanffaaDoorStepP
set_option linter.unusedVariables false
set_option linter.unusedSimpArgs false
namespace Go.Proofs.YthbledeghanffaaDoor
open Go.ChangeShapes Go.WideShapes Go.ChangeAt Go.RowKit

theorem rv_row {w w' : World} {g : Nat} {t : TypeId} {v : Value} (h : Blk w' g t [v]) : w'.cell? ⟨g, 0, none⟩ = some v := h.cell 0 (by simp)
theorem sk_one {w : World} {g : Nat} {t : TypeId} {A : Option Addr} {c B : Nat} {os : List Ord} (h : Blk w g t [.slice A os.length c]) (hg : g < B) (hs : SO w B A os) (hc : os.length ≤ c) (hm : c ≤ maxLen) : SK w B (some ⟨g, 0, none⟩) [os] := by
  intro _
  refine ⟨g, 0, rfl, hg, fun j hj => ?_⟩
  have : j = 0 := by simp at hj; omega
  subst this
  exact ⟨A, c, h.cell 0 (by simp), hs, hc, hm⟩
theorem workLeft_one {os : List Ord} (h : ticketB os = true) : workLeftF [os] = leftT os := by
  have hk : kitB [os] = true := by simp [kitB, h]
  rw [workLeft_yes hk]; simp [leftK]
theorem all_pre {ks : List (List Ord)} (k : Nat) (h : k < ks.length) : (ks.take (k + 1)).all doneB = ((ks.take k).all doneB && doneB ks[k]) := all_take_succ _ ks k h
set_option maxRecDepth 20000 in
set_option maxHeartbeats 8000000 in
theorem walk_fnWorkLeft (w : World) (A : Option Addr) (c : Nat) (xs : List Int) (h : RV w w.heap.size A (bts xs)) (hc : xs.length ≤ c) (hm : c ≤ maxLen) (hb : ∀ x ∈ xs, 0 ≤ x ∧ x ≤ 255) :
    Calls Tryd.prog 8 #[.slice A xs.length c] w fun e w' => e = .returned (.bool true) ∧ Below w.heap.size w w' := by
  unfold maxLen at hm
  by_cases hl : xs.length ≤ 1048576
  · have HD := Lib.hid (drawWorkLeft_any A c xs w h hc hl hb)
    clear hb h
    have hd8 : decide ((1048576 : Int) < (xs.length : Int)) = false := decide_eq_false (by omega)
    go_enter Tryd.func8, Tryd.ntmps8
    go_wp2_with fail
    refine HD.out.mono ?_
    rintro e w1 ⟨v, ks, rfl, o, hkl, bel⟩
    obtain ⟨A1, c1, rfl, hc1, -⟩ := OK.form o
    have hr1 := OK.reads o
    clear o HD
    go_wp2_with fail
    refine (impl_workLeft A1 c1 ks _ hr1 (by omega)).mono ?_
    rintro e w2 ⟨rfl, b2⟩
    have hr1 := SK.step hr1 b2
    replace bel := below_step bel b2
    go_wp2_with fail
    refine (spec_workLeft A1 c1 ks _ hr1 (by omega)).mono ?_
    rintro e w3 ⟨rfl, b3⟩
    have hr1 := SK.step hr1 b3
    replace bel := below_step bel b3
    cases hk : kitB ks
    · rw [workLeft_no hk]
      clear hk
      go_wp2_with fail
      refine (alive_any _).mono ?_
      rintro e w4 ⟨rfl, b4⟩
      go_wp2
      go_ret
      exact ⟨rfl, below_step bel b4⟩
    · rw [workLeft_yes hk]
      have HK := Lib.hid hk
      have hbd := leftK_le hk
      have HDN := Lib.hid (leftK_done (kit_all hk)).2
      have HST := Lib.hid (fun k => kit_acc hk k (by omega))
      obtain ⟨n, hn⟩ : ∃ n, leftK ks = n := ⟨_, rfl⟩
      have HN := Lib.hid hn
      rw [hn] at hbd ⊢
      have hz1 : decide (n < 0) = false := decide_eq_false (by omega)
      have hkm : ks.length ≤ 600 := by omega
      clear hk hn
      go_wp2
      go_loopw [5, 6, 7] (fun s d i wr => ∃ (k : Nat) (S : Int) (D : Bool), k ≤ ks.length ∧ s = .int .i64 S ∧ d = .bool D ∧ i = .int .i64 k ∧ Hid (S = leftK (ks.take k)) ∧ Hid (D = (ks.take k).all doneB) ∧ Below w3.heap.size w3 wr) (fun _ _ i _ => ks.length - (intOf i).toNat)
      case atStart => exact ⟨0, 0, true, Nat.zero_le _, rfl, rfl, rfl, rfl, rfl, Below.refl _ _⟩
      case round =>
        obtain ⟨k, S, D, hk, rfl, rfl, rfl, HS, HD, hW⟩ := hrel
        by_cases hlt : k < ks.length
        · obtain ⟨b, off, rfl, hbl, hcc⟩ := (SK.step hr1 hW) (by omega)
          obtain ⟨Aj, cj, hcell, hso, hcj, hcm⟩ := hcc k hlt
          have hlj := len_le_total ks k hlt
          have ht := kit_ticket HK.out k hlt
          have hS0 := HST.out k
          rw [← HS.out] at hS0
          have HS2 : Hid (S + leftT ks[k] = leftK (ks.take (k + 1))) := Lib.hid (by rw [leftK_succ ks k hlt, HS.out])
          have HD2 : Hid ((D && doneB ks[k]) = (ks.take (k + 1)).all doneB) := Lib.hid (by rw [all_pre k hlt, HD.out])
          have hlb := leftT_bound (ticket_state ht)
          have HW1 := Lib.hid (workLeft_one ht)
          have hto : total [ks[k]] = ks[k].length := by simp [total]
          clear hcc ht HS HD
          generalize ks[k] = os at *
          have hs := hW.size
          go_wp2_with fail
          have hB := Blk.new wr 25 #[.slice Aj os.length cj]
          have hr5 := sk_one hB (B := wr.heap.size + 1) (by omega) ((hso.below (below_al (Below.refl _ _) _)).more (by omega)) hcj hcm
          have hr6 : SK (wr.alloc (.cells #[.slice Aj os.length cj] 25)) (wr.alloc (.cells #[.slice Aj os.length cj] 25)).heap.size (some ⟨wr.heap.size, 0, none⟩) [os] := hr5.more (by simp)
          have hx := impl_workLeft (some ⟨wr.heap.size, 0, none⟩) 1 [os] _ hr6 (by rw [hto]; simp; omega)
          rw [HW1.out] at hx
          refine hx.mono ?_
          rintro e w4 ⟨rfl, b4⟩
          have b5 : Below wr.heap.size wr w4 := below_step (below_al (Below.refl _ _) _) b4
          have hW2 := below_step hW b5
          have hso2 : SO w4 w4.heap.size Aj os := RV.step hso b5
          have hc5 : w4.cell? ⟨b, off + k, none⟩ = some (.slice Aj os.length cj) := by rw [b5.cell (p := ⟨b, off + k, none⟩) hbl]; exact hcell
          have hs5 := b5.size
          clear hB hr5 hr6 hx
          generalize leftT os = L at *
          cases D
          · go_wp2
            go_roundw
            case rel => exact ⟨k + 1, _, false, by omega, by go_num, rfl, by go_num, HS2, HD2, hW2⟩
            case measure => simp [intOf]; omega
          · go_wp2_with fail
            refine (impl_ticketDone Aj cj os _ hso2 (by omega)).mono ?_
            rintro e w5 ⟨rfl, b6⟩
            go_wp2
            go_roundw
            case rel => exact ⟨k + 1, _, _, by omega, by go_num, rfl, by go_num, HS2, HD2, below_step hW2 b6⟩
            case measure => simp [intOf]; omega
        · obtain rfl : k = ks.length := by omega
          have hS := HS.out
          have hD := HD.out
          rw [List.take_length] at hS hD
          rw [HN.out] at hS
          rw [HDN.out, HN.out] at hD
          subst hS hD
          have hbb : ((S == 0) == decide (S = 0)) = true := by rw [beq_iff_eq, Bool.eq_iff_iff, beq_iff_eq, decide_eq_true_eq]
          go_wp2
          go_ret
          exact ⟨rfl, below_step bel hW⟩
  · go_enter Tryd.func8, Tryd.ntmps8
    go_wp2
    go_ret
    exact ⟨rfl, Below.refl _ _⟩
end Go.Proofs.YthbledeghanffaaDoor
