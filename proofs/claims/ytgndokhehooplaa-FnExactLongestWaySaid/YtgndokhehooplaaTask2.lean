/- The small functions over slices of tasks: contracts. -/
import Derived.Test.YtgndokhehooplaaTask
set_option linter.unusedVariables false
set_option linter.unusedSimpArgs false
namespace Go.Proofs.Ytgndokhehooplaa
open Go.ChangeShapes Go.WideShapes Go.ChangeAt Go.RowKit

theorem take_set_succ {α : Type} (ps : List α) (k : Nat) (x : α) (h : k < ps.length) : (ps.set k x).take (k + 1) = ps.take k ++ [x] := by
  rw [List.take_succ_eq_append_getElem (by simpa using h), List.take_set, List.set_eq_of_length_le (by rw [List.length_take]; omega)]
  simp
theorem pairs_set12 (a : Int) (v : Value) (ps : List (Int × Value)) (k : Nat) (hk : k < ps.length) : ((pairs ps).set (k * 2) (.int .i64 a)).set (k * 2 + 1) v = pairs (ps.set k (a, v)) := by
  rw [pairs_set1 a ps k hk, pairs_set2 v _ k (by simpa using hk)]
  simp
set_option maxHeartbeats 2000000 in
theorem toTask_any (s : Int) (A : Option Addr) (c : Nat) (xs : List Int) (w : World) (h : IS w w.heap.size A xs) (hl : xs.length ≤ 1048576) :
    Calls Try.prog 58 #[.agg #[.int .i64 s, .slice A xs.length c]] w fun e w' => ∃ A' c', e = .returned (.agg #[.int .i64 s, .slice A' xs.length c']) ∧ w'.ownsRow w.heap.size 3 1 (.slice A' xs.length c') xs.length (ints xs) ∧ Below w.heap.size w w' := by
  have H := Lib.hid h
  have hI : ∀ W, Below w.heap.size w W → IS W W.heap.size A xs := fun W hW => (H.out.below hW).more hW.size
  have HI := Lib.hid hI
  clear hI h
  go_enter Try.func58, Try.ntmps58
  go_wp2_with fail
  refine (toIntS_any A c xs _ (HI.out _ (below_al (below_al (below_al (Below.refl w.heap.size w) _) _) _)) hl).mono ?_
  rintro e w1 ⟨v1, rfl, o1, b1⟩
  have b2 : Below w.heap.size w w1 := below_step (below_al (below_al (below_al (Below.refl w.heap.size w) _) _) _) b1
  obtain ⟨hc, hf⟩ := bcell b1
  have hz : w.heap.size + 1 + 1 < w1.heap.size := by have := b1.size; simp at this; omega
  obtain ⟨A1, c1, rfl, -⟩ := own_form o1
  have O0 := Lib.hid (own_mono (base' := w.heap.size + 1 + 1 + 1) o1 (by simp))
  clear o1 b1
  go_wp2
  refine bodyPost_ret (v := .agg #[.int .i64 s, .slice A1 xs.length c1]) (by simp [results, Try.results58, go_sem, hc, hz]) rfl ⟨_, _, rfl, ?_, ?_⟩
  · refine own_mono (base := w.heap.size + 1 + 1 + 1) (ownI_keep O0.out fun g hg => ?_) (by omega)
    have hgl := (World.ownsRow.lt O0.out g hg).1
    rw [Below.heap_setCell _ _ _ _ (fun e => by simp at e; omega), Below.heap_setCell _ _ _ _ (fun e => by simp at e; omega), Below.heap_setCell _ _ _ _ (fun e => by simp at e; omega)]
  · exact below_sc (below_sc (below_sc b2 (by simp; omega) _) (by simp) _) (by simp) _
set_option maxHeartbeats 4000000 in
theorem toTaskS_any (A : Option Addr) (c : Nat) (ts : List Tsk) (w : World) (h : ST w w.heap.size A ts) (hl : ts.length + totT ts ≤ 1048576) :
    Calls Try.prog 28 #[.slice A ts.length c] w (RetTk w ts) := by
  have hmk := run_make_rowN (P := Try.prog) 38 58 #[.int .i64 0, .slice none 0 0] 2 32 Try.underlying38 task_info .i64 .i64 ts.length (by omega) (by omega)
  go_enter Try.func28, Try.ntmps28
  go_wp2
  clear hmk
  go_loopw [4] (fun i wr => ∃ (k : Nat) (ps : List (Int × Value)), k ≤ ts.length ∧ i = .int .i64 k ∧ ps.length = ts.length ∧ (ps.take k).map Prod.fst = (ts.take k).map Prod.fst ∧ Blk wr w.heap.size 58 (pairs ps) ∧ InnI wr w.heap.size ((ps.take k).map Prod.snd) (rowsT (ts.take k)) ∧ Below w.heap.size w wr) (fun i _ => ts.length - (intOf i).toNat)
  case atStart => exact ⟨0, _, Nat.zero_le _, rfl, by simp, by simp, blk_madeP w 0 (.slice none 0 0) ts.length _, InnI.nil _ _, (Below.refl _ _).alloc (Nat.le_refl _) _⟩
  case round =>
    obtain ⟨k, ps, hk, rfl, hps, hfs, hB, hI, hW⟩ := hrel
    have HPS := Lib.hid hps
    have HFS := Lib.hid hfs
    clear hps hfs
    by_cases hlt : k < ts.length
    · obtain ⟨b, off, rfl, hbl, hc⟩ := (h.below hW) (by omega)
      obtain ⟨hcell0, Aj, cj, hcell, hso, -⟩ := hc k hlt
      have hlj := len_le_totT ts k hlt
      clear hc
      go_wp2_with fail
      refine (toTask_any _ _ _ _ _ (hso.more hW.size) (by omega)).mono ?_
      rintro e w1 ⟨A1, c1, rfl, o1, b1⟩
      have hW1 := below_step hW b1
      have hB1 := hB.below b1 hB.lt
      have hkp : k < ps.length := by rw [HPS.out]; exact hlt
      have hg1 := hB1.cell (k * 2) (by rw [pairs_length]; omega)
      have hg2 := hB1.frozen (k * 2)
      have hg3 := hB1.cell (k * 2 + 1) (by rw [pairs_length]; omega)
      have hg4 := hB1.frozen (k * 2 + 1)
      have hI1 := hI.push b1 o1 hW.size
      rw [← rowsT_take_succ ts k hlt] at hI1
      have hB2 := (hB1.set_ (k * 2) (.int .i64 ts[k].1)).set_ (k * 2 + 1) (.slice A1 ts[k].2.length c1)
      rw [pairs_set12 _ _ _ _ hkp] at hB2
      have hI2 : InnI ((w1.setCell ⟨w.heap.size, k * 2, none⟩ (.int .i64 ts[k].1)).setCell ⟨w.heap.size, k * 2 + 1, none⟩ (.slice A1 ts[k].2.length c1)) w.heap.size ((ps.take k).map Prod.snd ++ [.slice A1 ts[k].2.length c1]) (rowsT (ts.take (k + 1))) := hI1.keep fun g cc hg => by
        have hne : w.heap.size ≠ g := by
          intro e
          subst e
          have hx := hB1
          unfold Blk at hx
          rw [hg] at hx
          injection hx with hx
          injection hx with _ hx _
          exact types_differT hx.symm
        rw [Below.heap_setCell _ _ _ _ (fun e => hne (Eq.symm e)), Below.heap_setCell _ _ _ _ (fun e => hne (Eq.symm e))]
      have HB2 := Lib.hid hB2
      have HI2 := Lib.hid hI2
      have HT1 := Lib.hid (take_set_succ ps k (ts[k].1, Value.slice A1 ts[k].2.length c1) hkp)
      have hex1 : ∃ u, w1.cell? ⟨w.heap.size, k * 2, none⟩ = some u := ⟨_, hg1⟩
      have hex2 : ∃ u, w1.cell? ⟨w.heap.size, k * 2 + 1, none⟩ = some u := ⟨_, hg3⟩
      clear hg1 hg3
      obtain ⟨u1, hg1⟩ := hex1
      obtain ⟨u3, hg3⟩ := hex2
      clear hB hB1 hB2 hI hI1 hI2 o1 hso
      go_wp2
      go_roundw
      case rel => exact ⟨k + 1, _, by omega, by go_num, by rw [List.length_set]; exact HPS.out, by rw [HT1.out, List.map_append, HFS.out, List.take_succ_eq_append_getElem hlt, List.map_append]; rfl, HB2.out, by rw [HT1.out, List.map_append]; exact HI2.out, (hW1.setCell (Nat.le_refl _) _).setCell (Nat.le_refl _) _⟩
      case measure => simp [intOf]; omega
    · obtain rfl : k = ts.length := by omega
      have hO : OT wr w.heap.size wr.heap.size (.slice (some ⟨w.heap.size, 0, none⟩) ts.length ts.length) ts := by
        have hp : ps.take ts.length = ps := List.take_of_length_le (by rw [HPS.out]; exact Nat.le_refl _)
        have h1 := HFS.out
        rw [hp, List.take_length] at h1
        rw [hp, List.take_length] at hI
        refine ⟨ps, h1, HPS.out, by simp [rowsT], OwnR.mk (hB.own (Nat.le_refl _) (by rw [pairs_length, HPS.out]) (by simp [maxLen]; omega)), hI, fun j hj g hg => ?_⟩
        obtain ⟨Aj, cj, e, ho⟩ := hI.at_ j (by rw [← hI.len]; exact hj) hj
        rw [e] at hg
        exact (World.ownsRow.lt ho g hg).2
      have HO := Lib.hid hO
      clear hO hB hI
      go_wp2
      go_ret
      exact ⟨_, rfl, HO.out, hW⟩
set_option maxHeartbeats 1000000 in
theorem szIntS_any (A : Option Addr) (n c : Nat) (left : Int) (w : World) (h0 : 0 ≤ left) (h1 : left ≤ 1048576) (hn : n ≤ 9223372036854775807) :
    Calls Try.prog 70 #[.slice A n c, .int .i64 left] w fun e w' => e = .returned (.int .i64 (szR left n)) ∧ w = w' := by
  by_cases h : left < n
  · have e : szR left n = -1 := by simp [szR, h]
    have E := Lib.hid e
    clear e
    go_enter Try.func70, Try.ntmps70
    go_wp2
    go_ret
    exact ⟨ret_int E.out.symm, rfl⟩
  · have e : szR left n = left - n := by simp [szR, h]
    have E := Lib.hid e
    clear e
    go_enter Try.func70, Try.ntmps70
    go_wp2
    go_ret
    exact ⟨ret_int E.out.symm, rfl⟩
set_option maxHeartbeats 1000000 in
theorem szTask_any (s : Int) (A : Option Addr) (n c : Nat) (left : Int) (w : World) (h0 : 0 ≤ left) (h1 : left ≤ 1048576) (hn : n ≤ 9223372036854775807) :
    Calls Try.prog 55 #[.agg #[.int .i64 s, .slice A n c], .int .i64 left] w fun e w' => e = .returned (.int .i64 (szR left n)) ∧ Below w.heap.size w w' := by
  by_cases h : left < n
  · have e : szR left n = -1 := by simp [szR, h]
    have E := Lib.hid e
    clear e
    go_enter Try.func55, Try.ntmps55
    go_wp2_with fail
    refine (szIntS_any A n c left _ h0 h1 hn).mono ?_
    rintro e w' ⟨rfl, rfl⟩
    rw [E.out]
    go_wp2
    go_ret
    exact ⟨ret_int E.out.symm, below_al (Below.refl _ _) _⟩
  · have e : szR left n = left - n := by simp [szR, h]
    have E := Lib.hid e
    have hlo : 0 ≤ szR left n := by rw [e]; omega
    clear e
    go_enter Try.func55, Try.ntmps55
    go_wp2_with fail
    refine (szIntS_any A n c left _ h0 h1 hn).mono ?_
    rintro e w' ⟨rfl, rfl⟩
    go_wp2
    go_ret
    exact ⟨rfl, below_al (Below.refl _ _) _⟩
set_option maxHeartbeats 2000000 in
theorem szTaskS_no (A : Option Addr) (c : Nat) (ts : List Tsk) (w : World) (h : ST w w.heap.size A ts) (hn : ts.length ≤ 9223372036854775807) (hl : ∀ j (h : j < ts.length), ts[j].2.length ≤ 9223372036854775807) (ht : 1048576 < ts.length + totT ts) :
    Calls Try.prog 26 #[.slice A ts.length c, .int .i64 1048576] w fun e w' => e = .returned (.int .i64 (-1)) ∧ Below w.heap.size w w' := by
  have HL := Lib.hid hl
  clear hl
  by_cases h0 : 1048576 < ts.length
  · go_enter Try.func26, Try.ntmps26
    go_wp2
    go_ret
    exact ⟨rfl, Below.refl _ _⟩
  · replace h0 : ts.length ≤ 1048576 := by omega
    go_enter Try.func26, Try.ntmps26
    go_wp2
    go_loopw [1, 5] (fun q i wr => ∃ k : Nat, k ≤ ts.length ∧ i = .int .i64 k ∧ ts.length + totT (ts.take k) ≤ 1048576 ∧ q = .int .i64 (1048576 - (ts.length : Int) - (totT (ts.take k) : Int)) ∧ Below w.heap.size w wr) (fun _ i _ => ts.length - (intOf i).toNat)
    case atStart => exact ⟨0, Nat.zero_le _, rfl, by simp [totT]; omega, by simp [totT], Below.refl _ _⟩
    case round =>
      obtain ⟨k, hk, rfl, hle, rfl, hW⟩ := hrel
      by_cases hlt : k < ts.length
      · obtain ⟨b, off, rfl, hbl, hc⟩ := (h.below hW) (by omega)
        obtain ⟨hcell0, Aj, cj, hcell, -⟩ := hc k hlt
        have hln := HL.out k hlt
        have hts := Lib.hid (totT_take_succ ts k hlt)
        clear hc
        by_cases hov : 1048576 - (ts.length : Int) - (totT (ts.take k) : Int) < ts[k].2.length
        · have hs : szR (1048576 - (ts.length : Int) - (totT (ts.take k) : Int)) ts[k].2.length = -1 := by simp [szR, hov]
          clear hov
          go_wp2_with (go_at_call 55; refine (szTask_any _ _ _ _ _ _ (by omega) (by omega) hln).mono ?_; rintro e w1 ⟨rfl, b1⟩)
          go_ret
          exact ⟨rfl, below_step hW b1⟩
        · have hs : szR (1048576 - (ts.length : Int) - (totT (ts.take k) : Int)) ts[k].2.length = 1048576 - (ts.length : Int) - (totT (ts.take k) : Int) - ts[k].2.length := by simp [szR, hov]
          replace hov : (ts[k].2.length : Int) ≤ 1048576 - (ts.length : Int) - (totT (ts.take k) : Int) := by omega
          go_wp2_with (go_at_call 55; refine (szTask_any _ _ _ _ _ _ (by omega) (by omega) hln).mono ?_; rintro e w1 ⟨rfl, b1⟩)
          go_roundw
          case rel => exact ⟨k + 1, by omega, by go_num, by rw [hts.out]; omega, by rw [hts.out]; congr 1; omega, below_step hW b1⟩
          case measure => simp [intOf]; omega
      · obtain rfl : k = ts.length := by omega
        rw [List.take_length] at hle
        omega
set_option maxHeartbeats 2000000 in
theorem szTaskS_yes (A : Option Addr) (c : Nat) (ts : List Tsk) (w : World) (h : ST w w.heap.size A ts) (ht : ts.length + totT ts ≤ 1048576) :
    Calls Try.prog 26 #[.slice A ts.length c, .int .i64 1048576] w fun e w' => e = .returned (.int .i64 (1048576 - (ts.length : Int) - (totT ts : Int))) ∧ Below w.heap.size w w' := by
  go_enter Try.func26, Try.ntmps26
  go_wp2
  go_loopw [1, 5] (fun q i wr => ∃ k : Nat, k ≤ ts.length ∧ i = .int .i64 k ∧ q = .int .i64 (1048576 - (ts.length : Int) - (totT (ts.take k) : Int)) ∧ Below w.heap.size w wr) (fun _ i _ => ts.length - (intOf i).toNat)
  case atStart => exact ⟨0, Nat.zero_le _, rfl, by simp [totT], Below.refl _ _⟩
  case round =>
    obtain ⟨k, hk, rfl, rfl, hW⟩ := hrel
    by_cases hlt : k < ts.length
    · obtain ⟨b, off, rfl, hbl, hc⟩ := (h.below hW) (by omega)
      obtain ⟨hcell0, Aj, cj, hcell, -⟩ := hc k hlt
      have hts := Lib.hid (totT_take_succ ts k hlt)
      have hle := totT_take_le ts (k + 1)
      have hle2 : totT (ts.take k) + ts[k].2.length ≤ totT ts := by rw [← hts.out]; exact hle
      clear hc hle
      have hs : szR (1048576 - (ts.length : Int) - (totT (ts.take k) : Int)) ts[k].2.length = 1048576 - (ts.length : Int) - (totT (ts.take k) : Int) - ts[k].2.length := by simp [szR]; omega
      go_wp2_with (go_at_call 55; refine (szTask_any _ _ _ _ _ _ (by omega) (by omega) (by omega)).mono ?_; rintro e w1 ⟨rfl, b1⟩)
      go_roundw
      case rel => exact ⟨k + 1, by omega, by go_num, by rw [hts.out]; congr 1; omega, below_step hW b1⟩
      case measure => simp [intOf]; omega
    · obtain rfl : k = ts.length := by omega
      go_wp2
      go_ret
      exact ⟨ret_int (by rw [List.take_length]), hW⟩
set_option maxHeartbeats 2000000 in
theorem eqTask_any (s : Int) (A A' : Option Addr) (c c' : Nat) (xs : List Int) (w : World) (h : IS w w.heap.size A xs) (h' : IS w w.heap.size A' xs) (hl : xs.length ≤ 1048576) :
    Calls Try.prog 64 #[.agg #[.int .i64 s, .slice A xs.length c], .agg #[.int .i64 s, .slice A' xs.length c']] w (RetE w) := by
  have H1 := Lib.hid (fun W (hW : Below w.heap.size w W) => h.below hW)
  have H2 := Lib.hid (fun W (hW : Below w.heap.size w W) => h'.below hW)
  clear h h'
  go_enter Try.func64, Try.ntmps64
  go_wp2_with fail
  refine (eqIntS_any A A' c c' xs _ _ _ (H1.out _ (below_al (below_al (Below.refl _ _) _) _)) (H2.out _ (below_al (below_al (Below.refl _ _) _) _)) hl).mono ?_
  rintro e w1 ⟨rfl, q, rfl⟩
  go_wp2
  go_ret
  exact ⟨rfl, below_drewN (below_al (below_al (Below.refl _ _) _) _) _⟩
set_option maxHeartbeats 4000000 in
theorem eqTaskS_e (A A' : Option Addr) (c c' : Nat) (ts : List Tsk) (w : World) (h : ST w w.heap.size A ts) (h' : ST w w.heap.size A' ts) (hl : ts.length + totT ts ≤ 1048576) :
    Calls Try.prog 30 #[.slice A ts.length c, .slice A' ts.length c'] w (RetE w) := by
  go_enter Try.func30, Try.ntmps30
  go_wp2
  go_loopw [5] (fun i wr => ∃ k : Nat, k ≤ ts.length ∧ i = .int .i64 k ∧ Below w.heap.size w wr) (fun i _ => ts.length - (intOf i).toNat)
  case atStart => exact ⟨0, Nat.zero_le _, rfl, Below.refl _ _⟩
  case round =>
    obtain ⟨k, hk, rfl, hW⟩ := hrel
    by_cases hlt : k < ts.length
    · obtain ⟨b, off, rfl, hbl, hc⟩ := (h.below hW) (by omega)
      obtain ⟨b', off', rfl, hbl', hc'⟩ := (h'.below hW) (by omega)
      obtain ⟨hcell0, Aj, cj, hcell, hso, -⟩ := hc k hlt
      obtain ⟨hcell0', Aj', cj', hcell', hso', -⟩ := hc' k hlt
      have hlj := len_le_totT ts k hlt
      clear hc hc'
      go_wp2_with fail
      go_still_tail 8, (by kernel_rfl)
      go_wp2_with fail
      have hs1 : IS wr.drew wr.drew.heap.size Aj ts[k].2 := hso.more hW.size
      have hs2 : IS wr.drew wr.drew.heap.size Aj' ts[k].2 := hso'.more hW.size
      refine (eqTask_any _ _ _ _ _ _ _ hs1 hs2 (by omega)).mono ?_
      rintro e w1 ⟨rfl, b1⟩
      go_wp2
      go_roundw
      case rel => exact ⟨k + 1, by omega, by go_num, below_step hW.drew b1⟩
      case measure => simp [intOf]; omega
    · go_wp2
      go_ret
      exact ⟨rfl, hW⟩
theorem rowsT_at (ts : List Tsk) (j : Nat) (h : j < (rowsT ts).length) (h' : j < ts.length) : (rowsT ts)[j] = (ts[j].2.length, ints ts[j].2) := by simp [rowsT]
set_option maxHeartbeats 4000000 in
theorem markTaskS_r (A : Option Addr) (c : Nat) (ts : List Tsk) (m : Int) (w : World) (lo hi : Nat) (h : OT w lo hi (.slice A ts.length c) ts) (hl : ts.length + totT ts ≤ 1048576) (h0 : 0 ≤ m) (h1 : m ≤ 1000000) :
    Calls Try.prog 31 #[.slice A ts.length c, .int .i64 m] w fun e w' => e = .returned (.int .i64 (m + ts.length + totT ts)) ∧ Chg lo hi w w' := by
  obtain ⟨ps, hp1, hp2, hp3, hp4, hp5, hp6⟩ := h
  rcases hp4.1.2 with ⟨hv, hn⟩ | ⟨g, cap, cur, hv, hb, hg, hnc, hcm, hcs, htake⟩
  · injection hv with e1 e2 e3
    subst e1
    have hx : ts = [] := List.eq_nil_of_length_eq_zero hn
    subst hx
    go_enter Try.func31, Try.ntmps31
    go_wp2
    refine wp_loop_rounds 1 ?_
    rw [rounds_succ]
    go_wp2
    go_ret
    exact ⟨by simp [totT], Chg.refl _ _ _⟩
  · injection hv with e1 e2 e3
    subst e1 e3
    have hghi := hp4.2 g rfl
    have hO := hp4.1
    have HP5 := Lib.hid hp5
    have HP6 := Lib.hid hp6
    have HPL := Lib.hid hp2
    clear hp1 hp3 hp4 hp5 hp6 hg htake hcs hp2
    go_enter Try.func31, Try.ntmps31
    go_wp2
    go_loopw [1, 5] (fun q i wr => ∃ (k : Nat) (qs : List (Int × Value)) (rows : List RowI), k ≤ ts.length ∧ i = .int .i64 k ∧ q = .int .i64 (m + k + totT (ts.take k)) ∧ qs.map Prod.snd = ps.map Prod.snd ∧
      wr.ownsRow lo 58 2 (.slice (some ⟨g, 0, none⟩) ts.length c) ts.length (pairs qs) ∧ InnI wr lo (ps.map Prod.snd) rows ∧ (∀ j, k ≤ j → rows[j]? = (rowsT ts)[j]?) ∧ Chg lo hi w wr) (fun _ i _ => ts.length - (intOf i).toNat)
    case atStart => exact ⟨0, ps, _, Nat.zero_le _, rfl, by simp [totT], rfl, hO, HP5.out, fun _ _ => rfl, Chg.refl _ _ _⟩
    case round =>
      obtain ⟨k, qs, rows, hk, rfl, rfl, hqs, hO, hI, hrw, hC⟩ := hrel
      have HQS := Lib.hid hqs
      have HRW := Lib.hid hrw
      clear hqs hrw
      by_cases hlt : k < ts.length
      · have hql : qs.length = ts.length := by have := congrArg List.length HQS.out; simp at this; rw [this, HPL.out]
        have HQL := Lib.hid hql
        have hkv : k < (ps.map Prod.snd).length := by rw [List.length_map, HPL.out]; exact hlt
        have hkr : k < rows.length := by rw [← hI.len]; exact hkv
        have hrk : rows[k] = (ts[k].2.length, ints ts[k].2) := by
          have := HRW.out k (Nat.le_refl _)
          rw [List.getElem?_eq_getElem hkr, List.getElem?_eq_getElem (by simp [rowsT]; exact hlt), rowsT_at ts k _ hlt] at this
          exact Option.some.inj this
        have hts := Lib.hid (totT_take_succ ts k hlt)
        have hle := totT_take_le ts (k + 1)
        have hle2 : totT (ts.take k) + ts[k].2.length ≤ totT ts := by rw [← hts.out]; exact hle
        clear hle
        have hx1 := own_cell hO (k * 2) (by omega)
        obtain ⟨u1, hc1⟩ := hx1
        have hc2 := hO.frozenAt (k * 2)
        obtain ⟨hO2, hW2⟩ := hO.stored (k * 2) (.int .i64 (m + k + totT (ts.take k)))
        rw [pairs_set1 _ qs k (by omega)] at hO2
        obtain ⟨Ak, ck, hvk, hok⟩ := hI.at_ k hkr hkv
        rw [hrk] at hvk hok
        have hqk : qs[k].2 = .slice Ak ts[k].2.length ck := by
          rw [← hvk]
          have := congrArg (fun l => l[k]?) HQS.out
          simpa [hlt, HQL.out, HPL.out] using this
        have hc3 := hO2.cellAt (k * 2 + 1) (by omega)
        have hpg := (pairs_get (qs.set k (m + k + totT (ts.take k), qs[k].2)) k (by simp; omega)).2
        rw [hpg] at hc3
        have hqk2 : ((qs.set k (m + k + totT (ts.take k), qs[k].2))[k]'(by simp; omega)).2 = .slice Ak ts[k].2.length ck := by simpa using hqk
        rw [hqk2] at hc3
        have hI2 : InnI (wr.setCell ⟨g, k * 2, none⟩ (.int .i64 (m + k + totT (ts.take k)))) lo (ps.map Prod.snd) rows := hI.keep fun g' cc hg' => by
          refine Below.heap_setCell _ _ _ _ ?_
          intro e
          have e' : g' = g := by first | exact e | exact e.symm
          obtain ⟨cc2, hx⟩ := ownI_type hO (g := g) rfl
          rw [← e', hg'] at hx
          injection hx with hx
          injection hx with _ hx _
          exact types_differT hx.symm
        have hok2 : OI (wr.setCell ⟨g, k * 2, none⟩ (.int .i64 (m + k + totT (ts.take k)))) lo (.slice Ak ts[k].2.length ck) ts[k].2 := by
          obtain ⟨Ak', ck', hvk', hok'⟩ := hI2.at_ k hkr hkv
          rw [hrk] at hvk' hok'
          rw [hvk] at hvk'
          injection hvk' with q1 _ q3
          subst q1 q3
          exact hok'
        have hC2 : Chg lo hi w (wr.setCell ⟨g, k * 2, none⟩ (.int .i64 (m + k + totT (ts.take k)))) := hC.trans (Chg.of_grown hW2 fun g' hg' => by simp [Value.ownBlock] at hg'; subst hg'; exact ⟨hb, hghi⟩)
        have HO2 := Lib.hid hO2
        have HI2 := Lib.hid hI2
        have HVK := Lib.hid hvk
        have HG := Lib.hid (fun g' hg' => HP6.out k hkv g' hg')
        have HL2 := Lib.hid (World.ownsRow.lt hok2)
        clear hO hO2 hI hI2 hvk hok hqk hqk2 hpg hrk hW2
        go_wp2_with fail
        refine (markIntS_any _ _ _ _ lo hok2 (by omega) (by omega) (by omega)).mono ?_
        rintro e w3 ⟨rfl, o3, g3⟩
        have hC3 : Chg lo hi w w3 := hC2.trans (Chg.of_grown g3 fun g' hg' => ⟨(HL2.out g' hg').1, HG.out g' (by rw [HVK.out]; exact hg')⟩)
        have hO3 : w3.ownsRow lo 58 2 (.slice (some ⟨g, 0, none⟩) ts.length c) ts.length (pairs (qs.set k (m + k + totT (ts.take k), qs[k].2))) := by
          refine ownI_keep HO2.out fun g' hg' => g3.block g' (World.ownsRow.lt HO2.out g' hg').2 ?_
          intro e
          obtain ⟨c1, t1⟩ := ownI_type HO2.out hg'
          obtain ⟨c2, t2⟩ := ownI_type hok2 e.symm
          rw [t1] at t2
          injection t2 with t2
          injection t2 with _ t2 _
          exact types_differT t2
        have hI3 : InnI w3 lo (ps.map Prod.snd) (rows.set k (ts[k].2.length, ints (marks (m + k + totT (ts.take k) + 1) ts[k].2.length))) := by
          refine HI2.out.written k hkv (by rw [HVK.out]; exact g3) ?_ ?_
          · rw [HVK.out]
            have := o3
            unfold OI at this
            rw [marks_length] at this
            exact this
          · intro h2
            have := HRW.out k (Nat.le_refl _)
            rw [List.getElem?_eq_getElem h2, List.getElem?_eq_getElem (by simp [rowsT]; exact hlt), rowsT_at ts k _ hlt] at this
            rw [Option.some.inj this]
        have HO3 := Lib.hid hO3
        have HI3 := Lib.hid hI3
        clear hO3 hI3 o3 g3 hok2
        go_wp2
        go_roundw
        case rel =>
          refine ⟨k + 1, _, _, by omega, by go_num, by rw [hts.out]; congr 1; omega, ?_, HO3.out, HI3.out, fun j hj => ?_, hC3⟩
          · rw [List.map_set, ← HQS.out]
            refine List.ext_getElem? fun j => ?_
            rw [List.getElem?_set]
            split
            · rename_i e
              subst e
              have hkq : k < qs.length := by rw [HQL.out]; exact hlt
              simp [hkq]
            · rfl
          · rw [List.getElem?_set_ne (by omega)]
            exact HRW.out j (by omega)
        case measure => simp [intOf]; omega
      · obtain rfl : k = ts.length := by omega
        have hle2 : totT (ts.take ts.length) = totT ts := by rw [List.take_length]
        have HE := Lib.hid hle2
        clear hle2 hO hI
        go_wp2
        go_ret
        exact ⟨ret_int (by rw [HE.out]), hC⟩
end Go.Proofs.Ytgndokhehooplaa
