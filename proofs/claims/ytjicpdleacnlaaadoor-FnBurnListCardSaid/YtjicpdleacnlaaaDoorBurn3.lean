/- BurnList: what the program and the reference compute. -/
import Derived.Test.YtjicpdleacnlaaaDoorBurn2
import Derived.Test.YtjicpdleacnlaaaDoorDraw1
import Derived.OneCell
set_option linter.unusedVariables false
set_option linter.unusedSimpArgs false
namespace Go.Proofs.YtjicpdleacnlaaaDoor
open Go.ChangeShapes Go.WideShapes Go.ChangeAt Go.RowKit

theorem rv_newB {w : World} {g : Nat} (hg : g = w.heap.size) (cs : Array Value) (t : TypeId) : RV (w.alloc (.cells cs t)) (g + 1) (some ⟨g, 0, none⟩) cs.toList := by subst hg; exact rv_new w cs t
theorem drewN_two (w : World) (a b : Nat) : (w.drewN a).drewN b = w.drewN (a + b) := World.drewN_drewN _ _ _
theorem argm_step (l : List Int) (k : Nat) : argm l k = if at0 l k < at0 l (argm l (k - 1)) then k else argm l (k - 1) := by
  cases k with
  | zero => simp [argm]
  | succ k => simp [argm]
theorem argm_lt (l : List Int) (k M : Nat) (h : k ≤ M) (hM : 0 < M) : argm l (k - 1) < M := by
  have := argm_le l (k - 1); omega
theorem grd_bnd {xs : List Int} (h : spansB xs = true) {m b : Nat} (hb : b < m) (k : Nat) : 0 ≤ at0 (grd xs m k).2 b ∧ at0 (grd xs m k).2 b ≤ 30 * k := by
  rw [grd_load xs m (by omega) k b hb]; exact load_bound h _ _ _
theorem okM_no {xs : List Int} {m : Int} (h : spansB xs = false ∨ m < 1 ∨ 3 < m) : okM xs m = false := by
  rcases h with h | h
  · rw [okM, h]; rfl
  · have : inB m 1 3 = false := inB_false.2 (by omega)
    rw [okM, this]; simp
theorem okM_mk {xs : List Int} {m : Int} (h : spansB xs = true) (h2 : 1 ≤ m ∧ m ≤ 3) : okM xs m = true := by
  simp only [okM, Bool.and_eq_true, inB_true]; exact ⟨h, h2⟩
theorem grd_one (xs : List Int) (m k : Nat) : (grd xs m (k + 1)).1 = (grd xs m k).1 ++ [((argm (grd xs m k).2 (m - 1) : Nat) : Int)] := rfl
theorem grd_two (xs : List Int) (m k : Nat) : (grd xs m (k + 1)).2 = (grd xs m k).2.set (argm (grd xs m k).2 (m - 1)) (at0 (grd xs m k).2 (argm (grd xs m k).2 (m - 1)) + at0 xs k) := rfl
theorem made_two (w : World) (M n : Nat) : Blk ((w.alloc (.cells (madeCells #[.int .i64 0] M) 3)).alloc (.cells (madeCells #[.int .i64 0] n) 3)) w.heap.size 3 (ints (List.replicate M 0)) ∧ Blk ((w.alloc (.cells (madeCells #[.int .i64 0] M) 3)).alloc (.cells (madeCells #[.int .i64 0] n) 3)) (w.heap.size + 1) 3 (filled (.int .i64 0) [] n) := by
  refine ⟨?_, ?_⟩
  · rw [ints_replicate, ← filled_nil]; exact (blk_made w _ _ _).alloc _
  · have e : (w.alloc (.cells (madeCells #[.int .i64 0] M) 3)).heap.size = w.heap.size + 1 := by simp
    have := blk_made (w.alloc (.cells (madeCells #[.int .i64 0] M) 3)) (.int .i64 0) n 3
    rwa [e] at this
set_option maxRecDepth 20000 in
set_option maxHeartbeats 1000000 in
theorem impl_burnList (A : Option Addr) (c : Nat) (xs : List Int) (m : Int) (w : World) (h : IS w w.heap.size A xs) (hl : xs.length ≤ 1048576) (hm : -1000 ≤ m ∧ m ≤ 1000) :
    Calls Tryd.prog 23 #[.slice A xs.length c, .int .i64 m] w (RetI w (listF xs m)) := by
  cases hs : spansB xs
  · have HE := Lib.hid (listF_no (okM_no (xs := xs) (m := m) (.inl hs)))
    go_enter Tryd.func23, Tryd.ntmps23
    go_wp2_with (go_at_call 50; refine (impl_spansValid A c xs _ _ h hl).mono ?_; rintro e w1 ⟨rfl, rfl⟩)
    go_ret
    exact ⟨_, rfl, by rw [HE.out]; exact OI.nil _ _, Below.refl _ _⟩
  · by_cases h1 : m < 1
    · have HE := Lib.hid (listF_no (okM_no (xs := xs) (m := m) (.inr (.inl h1))))
      go_enter Tryd.func23, Tryd.ntmps23
      go_wp2_with (go_at_call 50; refine (impl_spansValid A c xs _ _ h hl).mono ?_; rintro e w1 ⟨rfl, rfl⟩)
      go_ret
      exact ⟨_, rfl, by rw [HE.out]; exact OI.nil _ _, Below.refl _ _⟩
    · by_cases h3 : 3 < m
      · have HE := Lib.hid (listF_no (okM_no (xs := xs) (m := m) (.inr (.inr h3))))
        go_enter Tryd.func23, Tryd.ntmps23
        go_wp2_with (go_at_call 50; refine (impl_spansValid A c xs _ _ h hl).mono ?_; rintro e w1 ⟨rfl, rfl⟩)
        go_ret
        exact ⟨_, rfl, by rw [HE.out]; exact OI.nil _ _, Below.refl _ _⟩
      · obtain ⟨M, rfl⟩ : ∃ M : Nat, m = M := ⟨m.toNat, by omega⟩
        have HE := Lib.hid (listF_yes (okM_mk (m := M) hs (by omega)))
        have HL := Lib.hid (grd_len xs M)
        have h6 := spans_len hs
        have HSB := Lib.hid (fun k => spans_bound hs k)
        have HGB := Lib.hid (fun (k b : Nat) (hb : b < M) => grd_bnd hs hb k)
        have hd1 : decide ((M : Int) < 1) = false := decide_eq_false h1
        have hd2 : decide ((3 : Int) < (M : Int)) = false := decide_eq_false h3
        have hM1 : 1 ≤ M := by omega
        have hM3 : M ≤ 3 := by omega
        have hd3 : decide (M < 1) = false := decide_eq_false (by omega)
        have hd4 : decide (3 < M) = false := decide_eq_false (by omega)
        have hmk := run_make_row' (P := Tryd.prog) 23 3 (.int .i64 0) 8 Tryd.underlying23 int_info rfl .i64 .i64 M (by omega) (by omega)
        have hmk2 := run_make_row' (P := Tryd.prog) 23 3 (.int .i64 0) 8 Tryd.underlying23 int_info rfl .i64 .i64 xs.length (by omega) (by omega)
        have HMT := Lib.hid (made_two w M xs.length)
        clear h1 h3
        go_enter Tryd.func23, Tryd.ntmps23
        go_wp2_with (go_at_call 50; refine (impl_spansValid A c xs _ _ h hl).mono ?_; rintro e w1 ⟨rfl, rfl⟩)
        clear hmk hmk2 hd1 hd2 hd3 hd4 hs
        go_loopw [29] (fun i wr => ∃ k : Nat, k ≤ xs.length ∧ i = .int .i64 k ∧ Blk wr w.heap.size 3 (ints (grd xs M k).2) ∧ Blk wr (w.heap.size + 1) 3 (filled (.int .i64 0) (ints (grd xs M k).1) xs.length) ∧ Below w.heap.size w wr) (fun i _ => xs.length - (intOf i).toNat)
        case atStart => exact ⟨0, Nat.zero_le _, rfl, HMT.out.1, HMT.out.2, below_al (below_al (Below.refl _ _) _) _⟩
        case round =>
          obtain ⟨k, hk, rfl, hB, hO, hW⟩ := hrel
          by_cases hlt : k < xs.length
          · obtain ⟨b, off, rfl, hbl, hcc⟩ := (IS.below h hW).at0_ (by omega)
            have e1 := hcc k hlt
            have hne1 : b ≠ w.heap.size := by omega
            have hne2 : b ≠ w.heap.size + 1 := by omega
            have hlo : (ints (grd xs M k).1).length = k := by rw [ints_length]; exact (HL.out k).1
            have hl2 : (grd xs M k).2.length = M := (HL.out k).2
            obtain ⟨hg1, hg2⟩ := hO.fillAt hlo hlt
            have HO2 := Lib.hid (hO.fill hlo hlt (.int .i64 ((argm (grd xs M k).2 (M - 1) : Nat) : Int)))
            have HBK := Lib.hid hB
            have HG1 := Lib.hid (grd_one xs M k)
            have HG2 := Lib.hid (grd_two xs M k)
            have HAL := Lib.hid (fun j (hj : j ≤ M) => argm_lt (grd xs M k).2 j M hj hM1)
            have HST := Lib.hid (fun j => argm_step (grd xs M k).2 j)
            have HC := Lib.hid (fun j (hj : j < M) => hB.at0B j (by rw [hl2]; exact hj))
            have HF := Lib.hid (fun j => hB.frozen j)
            have hGk := HGB.out k
            have HGK := Lib.hid hGk
            have hsb := HSB.out k
            clear hcc hB hO hlo hl2 hGk
            generalize (grd xs M k).2 = busy at *
            generalize hyy : at0 xs k = y at *
            clear hyy
            go_wp2
            go_loopw [9, 36] (fun f i wz => ∃ j q : Nat, j ≤ M ∧ i = .int .i64 j ∧ f = .int .i64 ((argm busy (j - 1) : Nat) : Int) ∧ wz = wr.drewN q) (fun _ i _ => M - (intOf i).toNat)
            case atStart => exact ⟨0, 0, Nat.zero_le _, rfl, rfl, rfl⟩
            case round =>
              obtain ⟨j, q, hj, rfl, rfl, rfl⟩ := hrel
              by_cases hlj : j < M
              · have c1 : wr.cell? ⟨w.heap.size, j, none⟩ = some (.int .i64 (at0 busy j)) := HC.out j hlj
                have c2 : wr.cell? ⟨w.heap.size, argm busy (j - 1), none⟩ = some (.int .i64 (at0 busy (argm busy (j - 1)))) := HC.out _ (HAL.out j hj)
                have ha := HAL.out j hj
                have HSJ := Lib.hid (HST.out j)
                generalize argm busy (j - 1) = a at *
                generalize at0 busy a = qa at *
                generalize at0 busy j = qj at *
                by_cases hq : qj < qa
                · rw [if_pos hq] at HSJ
                  go_wp2_with fail
                  go_quiet (fail)
                  go_wp2
                  go_roundw
                  case rel => exact ⟨j + 1, _, by omega, by go_num, by rw [Nat.add_sub_cancel, HSJ.out], rfl⟩
                  case measure => (simp [intOf]) <;> omega
                · rw [if_neg hq] at HSJ
                  go_wp2_with fail
                  go_quiet (fail)
                  go_wp2
                  go_roundw
                  case rel => exact ⟨j + 1, _, by omega, by go_num, by rw [Nat.add_sub_cancel, HSJ.out], rfl⟩
                  case measure => (simp [intOf]) <;> omega
              · obtain rfl : j = M := by omega
                have ha := HAL.out j (Nat.le_refl _)
                have c2 : wr.cell? ⟨w.heap.size, argm busy (j - 1), none⟩ = some (.int .i64 (at0 busy (argm busy (j - 1)))) := HC.out _ ha
                have f2 : wr.frozen? ⟨w.heap.size, argm busy (j - 1), none⟩ = false := HF.out (argm busy (j - 1))
                have hga := HGK.out _ ha
                generalize argm busy (j - 1) = a at *
                generalize hqa : at0 busy a = qa at *
                clear hqa
                go_wp2
                go_roundw
                case rel => exact ⟨k + 1, by omega, by go_num, by rw [HG2.out]; exact ((HBK.out.likeB (w' := wr.drewN q) rfl).far (p := ⟨w.heap.size + 1, k, none⟩) (by simp) _).setB a (qa + y), by rw [HG1.out, ints_append]; exact (HO2.out.likeB (w' := (wr.drewN q).setCell ⟨w.heap.size + 1, k, none⟩ (.int .i64 a)) rfl).far (p := ⟨w.heap.size, a, none⟩) (by simp) _, below_sc (below_sc (below_drewN hW q) (by simp) _) (Nat.le_refl _) _⟩
                case measure => (simp [intOf]) <;> omega
          · obtain rfl : k = xs.length := by omega
            rw [filled_all _ _ _ (by rw [ints_length]; exact (HL.out _).1)] at hO
            have HOO := Lib.hid (hO.ownI (base := w.heap.size) (by omega) (by rw [(HL.out _).1]; simp [maxLen]; omega))
            rw [(HL.out _).1] at HOO
            clear hO hB
            go_wp2
            go_ret
            exact ⟨_, rfl, by rw [HE.out]; exact HOO.out, hW⟩
set_option maxRecDepth 20000 in
set_option maxHeartbeats 1000000 in
theorem spec_burnList (A : Option Addr) (c : Nat) (xs : List Int) (m : Int) (w : World) (h : IS w w.heap.size A xs) (hl : xs.length ≤ 1048576) (hm : -1000 ≤ m ∧ m ≤ 1000) :
    Calls Tryd.prog 25 #[.slice A xs.length c, .int .i64 m] w (RetI w (listF xs m)) := by
  cases hs : spansB xs
  · have HE := Lib.hid (listF_no (okM_no (m := m) (.inl hs)))
    go_enter Tryd.func25, Tryd.ntmps25
    go_wp2_with (go_at_call 26; refine (spec_spansValid A c xs _ _ (h.below (below_al (Below.refl _ _) _)) hl).mono ?_; rintro e w1 ⟨rfl, rfl⟩)
    go_ret
    exact ⟨_, rfl, by rw [HE.out]; exact own_empty w _ _ _ (Nat.le_refl _), below_al (Below.refl _ _) _⟩
  · cases hmm : inB m 1 3
    · have HE := Lib.hid (listF_no (okM_no (xs := xs) (m := m) (.inr (by have := inB_false.1 hmm; omega))))
      go_enter Tryd.func25, Tryd.ntmps25
      go_wp2_with fail
      refine (spec_spansValid A c xs _ _ (h.below (below_al (Below.refl _ _) _)) hl).mono ?_
      rintro e w1 ⟨rfl, rfl⟩
      go_wp2_with (go_at_call 52; refine (l1In_any _ _ _ _).mono ?_; rintro e w' ⟨rfl, rfl⟩)
      go_ret
      exact ⟨_, rfl, by rw [HE.out]; exact own_empty w _ _ _ (Nat.le_refl _), below_al (Below.refl _ _) _⟩
    · have hm3 : 1 ≤ m ∧ m ≤ 3 := inB_true.1 hmm
      obtain ⟨M, rfl⟩ : ∃ M : Nat, m = M := ⟨m.toNat, by omega⟩
      have HE := Lib.hid (listF_yes (okM_mk (m := M) hs hm3))
      have HL := Lib.hid (grd_len xs M)
      have h6 := spans_len hs
      have HSB := Lib.hid (fun k => spans_bound hs k)
      have HGB := Lib.hid (fun (k b : Nat) (hb : b < M) => grd_bnd hs hb k)
      have hM1 : 1 ≤ M := by omega
      have hM3 : M ≤ 3 := by omega
      have hmk := run_make_row' (P := Tryd.prog) 23 3 (.int .i64 0) 8 Tryd.underlying23 int_info rfl .i64 .i64 M (by omega) (by omega)
      have HMT : Hid (Blk ((w.alloc (.cells #[] 3)).alloc (.cells (madeCells #[.int .i64 0] M) 3)) (w.heap.size + 1) 3 (ints (List.replicate M 0)) ∧ OI ((w.alloc (.cells #[] 3)).alloc (.cells (madeCells #[.int .i64 0] M) 3)) w.heap.size (.slice (some ⟨w.heap.size, 0, none⟩) 0 0) []) := Lib.hid (by
        refine ⟨?_, OI.below (own_empty w _ _ _ (Nat.le_refl _)) (below_al (Below.refl _ _) _)⟩
        have e : (w.alloc (.cells #[] 3)).heap.size = w.heap.size + 1 := by simp
        have := blk_made (w.alloc (.cells #[] 3)) (.int .i64 0) M 3
        rwa [e, filled_nil, ← ints_replicate] at this)
      go_enter Tryd.func25, Tryd.ntmps25
      go_wp2_with fail
      refine (spec_spansValid A c xs _ _ (h.below (below_al (Below.refl _ _) _)) hl).mono ?_
      rintro e w1 ⟨rfl, rfl⟩
      go_wp2_with (go_at_call 52; refine (l1In_any _ _ _ _).mono ?_; rintro e w' ⟨rfl, rfl⟩)
      clear hmk hs hmm
      go_loopw [5, 7] (fun v i wr => ∃ (k : Nat) (v0 : Value), k ≤ xs.length ∧ v0 = v ∧ i = .int .i64 k ∧ Blk wr (w.heap.size + 1) 3 (ints (grd xs M k).2) ∧ OI wr w.heap.size v0 (grd xs M k).1 ∧ v0.ownBlock ≠ some (w.heap.size + 1) ∧ w.heap.size + 1 < wr.heap.size ∧ Below w.heap.size w wr) (fun _ i _ => xs.length - (intOf i).toNat)
      case atStart => exact ⟨0, _, Nat.zero_le _, rfl, rfl, HMT.out.1, HMT.out.2, by simp [Value.ownBlock], by simp, below_al (below_al (Below.refl _ _) _) _⟩
      case round =>
        obtain ⟨k, v, hk, rfl, rfl, hB, hO, hnb, hsz, hW⟩ := hrel
        by_cases hlt : k < xs.length
        · obtain ⟨b, off, rfl, hbl, hcc⟩ := (IS.below h hW).at0_ (by omega)
          have e1 := hcc k hlt
          have hne1 : b ≠ w.heap.size + 1 := by omega
          have hne2 : b ≠ wr.heap.size := by omega
          have hlo : (grd xs M k).1.length = k := (HL.out k).1
          have hl2 : (grd xs M k).2.length = M := (HL.out k).2
          have HO2 : Hid (wr.ownsRow w.heap.size 3 1 v k (ints (grd xs M k).1)) := Lib.hid (by unfold OI at hO; rwa [hlo] at hO)
          have HBK := Lib.hid hB
          have HG1 := Lib.hid (grd_one xs M k)
          have HG2 := Lib.hid (grd_two xs M k)
          have HAL := Lib.hid (fun j (hj : j ≤ M) => argm_lt (grd xs M k).2 j M hj hM1)
          have HST := Lib.hid (fun j => argm_step (grd xs M k).2 j)
          have HC := Lib.hid (fun j (hj : j < M) => hB.at0B j (by rw [hl2]; exact hj))
          have HF := Lib.hid (fun j => hB.frozen j)
          have HGK := Lib.hid (HGB.out k)
          have hsb := HSB.out k
          have HLO := Lib.hid hlo
          have HNB := Lib.hid hnb
          clear hcc hB hO hlo hl2 hnb
          generalize (grd xs M k).2 = busy at *
          generalize hyy : at0 xs k = y at *
          clear hyy
          go_wp2
          go_loopw [8, 9] (fun f i wz => ∃ j q : Nat, j ≤ M ∧ 1 ≤ j ∧ i = .int .i64 j ∧ f = .int .i64 ((argm busy (j - 1) : Nat) : Int) ∧ wz = wr.drewN q) (fun _ i _ => M - (intOf i).toNat)
          case atStart => exact ⟨1, 0, hM1, Nat.le_refl _, rfl, rfl, rfl⟩
          case round =>
            obtain ⟨j, q, hj, hj1, rfl, rfl, rfl⟩ := hrel
            by_cases hlj : j < M
            · have c1 : wr.cell? ⟨w.heap.size + 1, j, none⟩ = some (.int .i64 (at0 busy j)) := HC.out j hlj
              have c2 : wr.cell? ⟨w.heap.size + 1, argm busy (j - 1), none⟩ = some (.int .i64 (at0 busy (argm busy (j - 1)))) := HC.out _ (HAL.out j hj)
              have ha := HAL.out j hj
              have HSJ := Lib.hid (HST.out j)
              generalize argm busy (j - 1) = a at *
              generalize at0 busy a = qa at *
              generalize at0 busy j = qj at *
              by_cases hq : qj < qa
              · rw [if_pos hq] at HSJ
                go_wp2_with fail
                go_quiet (fail)
                go_wp2
                go_roundw
                case rel => exact ⟨j + 1, _, by omega, by omega, by go_num, by rw [Nat.add_sub_cancel, HSJ.out], rfl⟩
                case measure => (simp [intOf]) <;> omega
              · rw [if_neg hq] at HSJ
                go_wp2_with fail
                go_quiet (fail)
                go_wp2
                go_roundw
                case rel => exact ⟨j + 1, _, by omega, by omega, by go_num, by rw [Nat.add_sub_cancel, HSJ.out], rfl⟩
                case measure => (simp [intOf]) <;> omega
            · obtain rfl : j = M := by omega
              have ha := HAL.out j (Nat.le_refl _)
              have c2 : wr.cell? ⟨w.heap.size + 1, argm busy (j - 1), none⟩ = some (.int .i64 (at0 busy (argm busy (j - 1)))) := HC.out _ ha
              have f2 : wr.frozen? ⟨w.heap.size + 1, argm busy (j - 1), none⟩ = false := HF.out (argm busy (j - 1))
              have hga := HGK.out _ ha
              generalize argm busy (j - 1) = a at *
              generalize hqa : at0 busy a = qa at *
              clear hqa
              have e1q : (wr.drewN q).cell? ⟨b, off + k, none⟩ = some (.int .i64 y) := e1
              have c2q : (wr.drewN q).cell? ⟨w.heap.size + 1, a, none⟩ = some (.int .i64 qa) := c2
              have f2q : (wr.drewN q).frozen? ⟨w.heap.size + 1, a, none⟩ = false := f2
              have hWq : Below w.heap.size w (wr.drewN q) := below_drewN hW q
              have HBQ := Lib.hid (HBK.out.likeB (w' := wr.drewN q) rfl)
              have HOQ : Hid ((wr.drewN q).ownsRow w.heap.size 3 1 v k (ints (grd xs j k).1)) := Lib.hid (own_likeD (w' := wr.drewN q) HO2.out rfl)
              have hszq : w.heap.size + 1 < (wr.drewN q).heap.size := hsz
              have hneq : b ≠ (wr.drewN q).heap.size := hne2
              clear e1 c2 f2 hsz hne2 HC HF HGK
              generalize wr.drewN q = wq at *
              have HB2 := Lib.hid ((HBQ.out.likeB (w' := wq.drew) rfl).setB a (qa + y))
              have hwp : IntKind.i64.wrap (qa + y) = qa + y := by rw [IntKind.wrap_i64]; omega
              have HO3 : Hid ((wq.drew.setCell ⟨w.heap.size + 1, a, none⟩ (.int .i64 (qa + y))).ownsRow w.heap.size 3 1 v k (ints (grd xs j k).1)) := Lib.hid (ownsRow_setCell_other (own_likeD (w' := wq.drew) HOQ.out rfl) HNB.out _)
              have hW2 : Below w.heap.size w (wq.drew.setCell ⟨w.heap.size + 1, a, none⟩ (.int .i64 (qa + y))) := below_sc hWq.drew (by simp) _
              go_wp2_with fail
              go_still_tail 11, (by kernel_rfl)
              clear hwp
              go_wp2_with (at_builtin; refine wpList_app _ rfl _ _ 23 rfl int_EId w.heap.size v k _ rfl (HO3.out.alloc _) (some ⟨_, 0, none⟩) 1 1 [.int .i64 a] rfl rfl (rv_newB (by simp [World.setCell]) _ _) (one1 _) (le_max (by omega)) (by omega) (below_al hW2 _).size ?_; intro v5 w5 hO5 hg5 hv5)
              have hB5 := (HB2.out.alloc _).grown hg5 (by intro e; exact HNB.out e.symm)
              go_roundw
              case rel => exact ⟨k + 1, _, by omega, rfl, by go_num, by rw [HG2.out]; exact hB5, by rw [HG1.out]; exact oi_pushD (by rw [HLO.out]; exact hO5), by (rcases hv5 with e | e) <;> rw [e] <;> first | exact HNB.out | (simp; omega), by have := hg5.size; simp at this; omega, below_app (below_al hW2 _) (HO3.out.alloc _) hg5⟩
              case measure => (simp [intOf]) <;> omega
        · obtain rfl : k = xs.length := by omega
          have HOO := Lib.hid hO
          clear hO hB
          go_wp2
          go_ret
          exact ⟨_, rfl, by rw [HE.out]; exact HOO.out, hW⟩
end Go.Proofs.YtjicpdleacnlaaaDoor
