/- BurnLeast: what the program and the reference compute. -/
import Derived.Test.YtjicpdleacnlaaaDoorBurn3
import Derived.Deep.LoopGhost
import Derived.Lib.MinMax
set_option linter.unusedVariables false
set_option linter.unusedSimpArgs false
namespace Go.Proofs.YtjicpdleacnlaaaDoor
open Go.ChangeShapes Go.WideShapes Go.ChangeAt Go.RowKit

theorem pow_pos3 (M n : Nat) (h : 1 ≤ M) : 1 ≤ M ^ n := Nat.one_le_pow _ _ h
theorem pow_le3 (M n : Nat) (h : 1 ≤ M) (h3 : M ≤ 3) (hn : n ≤ 6) : M ^ n ≤ 729 := by
  have h1 : M ^ n ≤ 3 ^ n := Nat.pow_le_pow_left h3 n
  have h2 : (3 : Nat) ^ n ≤ 3 ^ 6 := Nat.pow_le_pow_right (by omega) hn
  have h4 : (3 : Nat) ^ 6 = 729 := by decide
  omega
theorem digs_snoc (M : Nat) : ∀ k v, digs M (k + 1) v = digs M k v ++ [((v / M ^ k % M : Nat) : Int)]
  | 0, v => by simp [digs]
  | k + 1, v => by
    rw [digs, digs_snoc M k (v / M), digs, List.cons_append, Nat.div_div_eq_div_mul, Nat.pow_succ, Nat.mul_comm (M ^ k) M]
theorem lst_nonneg {xs : List Int} {M : Nat} (h : okM xs M = true) (t : Nat) : 0 ≤ lst xs M t := by
  obtain ⟨v, hv, e⟩ := lst_hit xs M t
  rw [e]; exact (end_facts (digs_burn h v)).1
/-- The least end of the first v lists; -1 at first. -/
def bst (xs : List Int) (M : Nat) : Nat → Int
  | 0 => -1
  | v + 1 => lst xs M v
theorem bst_step {xs : List Int} {M : Nat} (h : okM xs M = true) (v : Nat) : lst xs M v = if bst xs M v < 0 ∨ bEnd xs M (digs M xs.length v) < bst xs M v then bEnd xs M (digs M xs.length v) else bst xs M v := by
  cases v with
  | zero => simp [bst, lst]
  | succ v =>
    have h0 := lst_nonneg h v
    rw [bst, lst]
    split <;> omega
set_option maxRecDepth 20000 in
set_option maxHeartbeats 1000000 in
theorem impl_burnLeast (A : Option Addr) (c : Nat) (xs : List Int) (m : Int) (w : World) (h : IS w w.heap.size A xs) (hl : xs.length ≤ 1048576) (hm : -1000 ≤ m ∧ m ≤ 1000) :
    Calls Tryd.prog 20 #[.slice A xs.length c, .int .i64 m] w fun e w' => e = .returned (.int .i64 (leastB xs m)) ∧ Below w.heap.size w w' := by
  cases hs : spansB xs
  · have HE := Lib.hid (leastB_no (okM_no (xs := xs) (m := m) (.inl hs)))
    go_enter Tryd.func20, Tryd.ntmps20
    go_wp2_with (go_at_call 50; refine (impl_spansValid A c xs _ _ h hl).mono ?_; rintro e w1 ⟨rfl, rfl⟩)
    go_ret
    exact ⟨ret_int HE.out.symm, Below.refl _ _⟩
  · by_cases h1 : m < 1
    · have HE := Lib.hid (leastB_no (okM_no (xs := xs) (m := m) (.inr (.inl h1))))
      go_enter Tryd.func20, Tryd.ntmps20
      go_wp2_with (go_at_call 50; refine (impl_spansValid A c xs _ _ h hl).mono ?_; rintro e w1 ⟨rfl, rfl⟩)
      go_ret
      exact ⟨ret_int HE.out.symm, Below.refl _ _⟩
    · by_cases h3 : 3 < m
      · have HE := Lib.hid (leastB_no (okM_no (xs := xs) (m := m) (.inr (.inr h3))))
        go_enter Tryd.func20, Tryd.ntmps20
        go_wp2_with (go_at_call 50; refine (impl_spansValid A c xs _ _ h hl).mono ?_; rintro e w1 ⟨rfl, rfl⟩)
        go_ret
        exact ⟨ret_int HE.out.symm, Below.refl _ _⟩
      · obtain ⟨M, rfl⟩ : ∃ M : Nat, m = M := ⟨m.toNat, by omega⟩
        have hok := okM_mk (m := (M : Int)) hs (by omega)
        have HE := Lib.hid (leastB_yes hok)
        have h6 := spans_len hs
        have hd1 : decide ((M : Int) < 1) = false := decide_eq_false h1
        have hd2 : decide ((3 : Int) < (M : Int)) = false := decide_eq_false h3
        have hM1 : 1 ≤ M := by omega
        have hM3 : M ≤ 3 := by omega
        have hd3 : decide (M < 1) = false := decide_eq_false (by omega)
        have hd4 : decide (3 < M) = false := decide_eq_false (by omega)
        have hmk := run_make_row' (P := Tryd.prog) 23 3 (.int .i64 0) 8 Tryd.underlying23 int_info rfl .i64 .i64 xs.length (by omega) (by omega)
        have HB0 : Hid (Blk (w.alloc (.cells (madeCells #[.int .i64 0] xs.length) 3)) w.heap.size 3 (ints (digs M xs.length 0))) := Lib.hid (by rw [digs_zero, ints_replicate, ← filled_nil]; exact blk_made w _ _ _)
        have HP1 := Lib.hid (pow_pos3 M xs.length hM1)
        have HND := Lib.hid (fun v hv => nxt_digs M hM1 xs.length v hv)
        have HDI := Lib.hid (fun v => digs_in M hM1 xs.length v)
        have HDL := Lib.hid (fun v => digs_length M xs.length v)
        have HEND : Hid (∀ (W : World) v, IS W W.heap.size A xs → Blk W w.heap.size 3 (ints (digs M xs.length v)) → Calls Tryd.prog 18 #[.slice A xs.length c, .int .i64 M, .slice (some ⟨w.heap.size, 0, none⟩) xs.length xs.length] W fun e w' => e = .returned (.int .i64 (bEnd xs M (digs M xs.length v))) ∧ Below W.heap.size W w') := Lib.hid (by
          intro W v hx hb
          have := impl_burnEnd A (some ⟨w.heap.size, 0, none⟩) c xs.length xs (digs M xs.length v) M W hx hb.isB hl (by rw [digs_length]; exact hl) (by omega)
          rwa [digs_length] at this)
        have HNX : Hid (∀ (W : World) v, Blk W w.heap.size 3 (ints (digs M xs.length v)) → Calls Tryd.prog 55 #[.slice (some ⟨w.heap.size, 0, none⟩) xs.length xs.length, .int .i64 M] W fun e w' => e = .returned (.bool (nxt M (digs M xs.length v)).2) ∧ Blk w' w.heap.size 3 (ints (nxt M (digs M xs.length v)).1) ∧ Chg w.heap.size (w.heap.size + 1) W w') := Lib.hid (by
          intro W v hb
          have := nextList_any w.heap.size (digs M xs.length v) M W hb (by rw [digs_length]; exact hl) (by omega) (fun x hx => by have := digs_in M hM1 xs.length v x hx; omega)
          rwa [digs_length] at this)
        clear h1 h3 hok
        go_enter Tryd.func20, Tryd.ntmps20
        go_wp2_with (go_at_call 50; refine (impl_spansValid A c xs _ _ h hl).mono ?_; rintro e w1 ⟨rfl, rfl⟩)
        clear hmk hd1 hd2 hd3 hd4 hs
        refine (HEND.out _ 0 (RV.step h (below_al (Below.refl _ _) _)) HB0.out).mono ?_
        rintro e w2 ⟨rfl, b2⟩
        have hB2 := HB0.out.below b2 (by simp)
        have hW2 : Below w.heap.size w w2 := below_step (below_al (Below.refl _ _) _) b2
        clear b2 HB0
        go_wp2_with fail
        go_loopg [6] (M ^ xs.length) (fun gk l wr => ∃ t : Nat, t + 1 ≤ M ^ xs.length ∧ gk = M ^ xs.length - t ∧ l = .int .i64 (lst xs M t) ∧ Blk wr w.heap.size 3 (ints (digs M xs.length t)) ∧ Below w.heap.size w wr)
        case atStart => exact ⟨0, HP1.out, rfl, rfl, hB2, hW2⟩
        case round =>
          obtain ⟨t, ht, rfl, rfl, hB, hW⟩ := hrel
          have HT := Lib.hid ht
          clear ht hB2 hW2
          go_wp2_with fail
          refine (HNX.out wr t hB).mono ?_
          rintro e w3 ⟨rfl, hB3, c3⟩
          have hW3 : Below w.heap.size w w3 := Below.chg hW c3 (Nat.le_refl _)
          have HT2 := Lib.hid (HND.out t (by have := HT.out; omega))
          clear hB c3 hW
          by_cases hlt : t + 1 < M ^ xs.length
          · have e1 := HT2.out.1 hlt
            rw [e1] at hB3
            have HLT := Lib.hid hlt
            have HLS : Hid (lst xs M (t + 1) = min (lst xs M t) (bEnd xs M (digs M xs.length (t + 1)))) := Lib.hid rfl
            rw [e1]
            clear hlt e1
            go_wp2_with fail
            refine (HEND.out w3 (t + 1) (RV.step h hW3) hB3).mono ?_
            rintro e w4 ⟨rfl, b4⟩
            have hB4 := hB3.below b4 (by have := hB3.lt; omega)
            have hW4 : Below w.heap.size w w4 := below_step hW3 b4
            clear hB3 b4 hW3
            generalize bEnd xs M (digs M xs.length (t + 1)) = e4 at *
            generalize lst xs M t = l4 at *
            go_wp2
            go_roundg (M ^ xs.length - (t + 1))
            case rel => exact ⟨t + 1, by have := HLT.out; omega, rfl, by rw [HLS.out], hB4, hW4⟩
            case measure => have := HLT.out; omega
          · have e1 := HT2.out.2 hlt
            have HLE : Hid (leastB xs M = lst xs M t) := Lib.hid (by rw [HE.out]; congr 1; have := HT.out; omega)
            rw [e1]
            clear hlt e1 hB3
            generalize lst xs M t = l4 at *
            go_wp2
            go_ret
            exact ⟨ret_int HLE.out.symm, hW3⟩
set_option maxRecDepth 20000 in
set_option maxHeartbeats 1000000 in
theorem spec_burnLeast (A : Option Addr) (c : Nat) (xs : List Int) (m : Int) (w : World) (h : IS w w.heap.size A xs) (hl : xs.length ≤ 1048576) (hm : -1000 ≤ m ∧ m ≤ 1000) :
    Calls Tryd.prog 28 #[.slice A xs.length c, .int .i64 m] w fun e w' => e = .returned (.int .i64 (leastB xs m)) ∧ Below w.heap.size w w' := by
  cases hs : spansB xs
  · have HE := Lib.hid (leastB_no (okM_no (xs := xs) (m := m) (.inl hs)))
    go_enter Tryd.func28, Tryd.ntmps28
    go_wp2_with (go_at_call 26; refine (spec_spansValid A c xs _ _ h hl).mono ?_; rintro e w1 ⟨rfl, rfl⟩)
    go_ret
    exact ⟨ret_int HE.out.symm, Below.refl _ _⟩
  · cases hmm : inB m 1 3
    · have HE := Lib.hid (leastB_no (okM_no (xs := xs) (m := m) (.inr (by have := inB_false.1 hmm; omega))))
      go_enter Tryd.func28, Tryd.ntmps28
      go_wp2_with fail
      refine (spec_spansValid A c xs _ _ h hl).mono ?_
      rintro e w1 ⟨rfl, rfl⟩
      go_wp2_with (go_at_call 52; refine (l1In_any _ _ _ _).mono ?_; rintro e w' ⟨rfl, rfl⟩)
      go_ret
      exact ⟨ret_int HE.out.symm, Below.refl _ _⟩
    · have hm3 : 1 ≤ m ∧ m ≤ 3 := inB_true.1 hmm
      obtain ⟨M, rfl⟩ : ∃ M : Nat, m = M := ⟨m.toNat, by omega⟩
      have hok := okM_mk (m := (M : Int)) hs hm3
      have HE := Lib.hid (leastB_yes hok)
      have HBS := Lib.hid (fun v => bst_step hok v)
      have h6 := spans_len hs
      have hM1 : 1 ≤ M := by omega
      have hM3 : M ≤ 3 := by omega
      have HP1 := Lib.hid (pow_pos3 M xs.length hM1)
      have HPL := Lib.hid (fun k (hk : k ≤ 6) => pow_le3 M k hM1 hM3 hk)
      have HEND : Hid (∀ (W : World) (A2 : Option Addr) (c2 v : Nat), IS W W.heap.size A xs → IS W W.heap.size A2 (digs M xs.length v) → Calls Tryd.prog 19 #[.slice A xs.length c, .int .i64 M, .slice A2 xs.length c2] W fun e w' => e = .returned (.int .i64 (bEnd xs M (digs M xs.length v))) ∧ W = w') := Lib.hid (by
        intro W A2 c2 v hx hb
        have := spec_burnEnd A A2 c c2 xs (digs M xs.length v) M W hx hb hl (by rw [digs_length]; exact hl) (by omega)
        rwa [digs_length] at this)
      clear hok
      go_enter Tryd.func28, Tryd.ntmps28
      go_wp2_with fail
      refine (spec_spansValid A c xs _ _ h hl).mono ?_
      rintro e w1 ⟨rfl, rfl⟩
      go_wp2_with (go_at_call 52; refine (l1In_any _ _ _ _).mono ?_; rintro e w' ⟨rfl, rfl⟩)
      clear hs hmm
      go_loop [6, 7] (fun a i => ∃ k : Nat, k ≤ xs.length ∧ i = .int .i64 k ∧ a = .int .i64 ((M ^ k : Nat) : Int)) (fun _ i => xs.length - (intOf i).toNat)
      case atStart => exact ⟨0, Nat.zero_le _, rfl, rfl⟩
      case round =>
        obtain ⟨k, hk, rfl, rfl⟩ := hrel
        by_cases hlt : k < xs.length
        · have hp1 := HPL.out (k + 1) (by omega)
          have HPS := Lib.hid (Nat.pow_succ (n := M) (m := k))
          rw [HPS.out] at hp1
          generalize M ^ k = p at *
          have hpz : (p : Int) * (M : Int) = ((p * M : Nat) : Int) := by rw [Int.natCast_mul]
          generalize p * M = pm at *
          go_wp2
          go_round
          case rel => exact ⟨k + 1, by omega, by go_num, by rw [HPS.out]⟩
          case measure => (simp [intOf]) <;> omega
        · obtain rfl : k = xs.length := by omega
          have hpl := HPL.out xs.length h6
          generalize hP : M ^ xs.length = P at *
          clear hP
          go_wp2
          go_loopw [5, 8] (fun b i wr => ∃ v : Nat, v ≤ P ∧ i = .int .i64 v ∧ b = .int .i64 (bst xs M v) ∧ Below w.heap.size w wr) (fun _ i _ => P - (intOf i).toNat)
          case atStart => exact ⟨0, Nat.zero_le _, rfl, rfl, Below.refl _ _⟩
          case round =>
            obtain ⟨v, hv, rfl, rfl, hW⟩ := hrel
            by_cases hltv : v < P
            · have HBV := Lib.hid (HBS.out v)
              have HBV1 : Hid (bst xs M (v + 1) = lst xs M v) := Lib.hid rfl
              generalize bst xs M v = bb at *
              go_wp2
              go_loopw [9, 10, 11] (fun u r i wz => ∃ (k : Nat) (u0 : Value), k ≤ xs.length ∧ u0 = u ∧ i = .int .i64 k ∧ r = .int .i64 ((v / M ^ k : Nat) : Int) ∧ OI wz w.heap.size u0 (digs M k v) ∧ Below w.heap.size w wz) (fun _ _ i _ => xs.length - (intOf i).toNat)
              case atStart => exact ⟨0, _, Nat.zero_le _, rfl, rfl, by rw [Nat.pow_zero, Nat.div_one], own_empty wr _ _ _ hW.size, below_al hW _⟩
              case round =>
                obtain ⟨k, u, hk, rfl, rfl, rfl, hO, hWz⟩ := hrel
                by_cases hlk : k < xs.length
                · have HSN := Lib.hid (digs_snoc M k v)
                  have HDV : Hid (v / M ^ (k + 1) = v / M ^ k / M) := Lib.hid (by rw [Nat.div_div_eq_div_mul, Nat.pow_succ])
                  have hrv : v / M ^ k ≤ v := Nat.div_le_self _ _
                  have hO2 : wr.ownsRow w.heap.size 3 1 u k (ints (digs M k v)) := by unfold OI at hO; rwa [digs_length] at hO
                  have HDL := Lib.hid (digs_length M k v)
                  clear hO
                  generalize v / M ^ k = r at *
                  generalize digs M k v = dk at *
                  have hr1 : (r : Int).tmod (M : Int) = ((r % M : Nat) : Int) := Int.ofNat_tmod r M
                  have hr2 : (r : Int).tdiv (M : Int) = ((r / M : Nat) : Int) := Int.ofNat_tdiv r M
                  have hrm : r % M < M := Nat.mod_lt _ hM1
                  have hrd : r / M ≤ r := Nat.div_le_self _ _
                  have hMz : ((M : Int) == 0) = false := by rw [beq_eq_false_iff_ne]; omega
                  have hMz2 : ¬ ((M : Int) = 0) := by omega
                  have hMz3 : ¬ (M = 0) := by omega
                  generalize r % M = rm at *
                  generalize r / M = rd at *
                  go_wp2_with (at_builtin; refine wpList_app _ rfl _ _ 23 rfl int_EId w.heap.size u k _ rfl (hO2.alloc _) (some ⟨_, 0, none⟩) 1 1 [.int .i64 rm] rfl rfl (rv_newB (by simp) _ _) (one1 _) (le_max (by omega)) (by omega) (below_al hWz _).size ?_; intro v5 w5 hO5 hg5 _)
                  go_roundw
                  case rel => exact ⟨k + 1, _, by omega, rfl, by go_num, by rw [HDV.out], by rw [HSN.out]; exact oi_pushD (by rw [HDL.out]; exact hO5), below_app (below_al hWz _) (hO2.alloc _) hg5⟩
                  case measure => (simp [intOf]) <;> omega
                · obtain rfl : k = xs.length := by omega
                  have hO2 : wr.ownsRow w.heap.size 3 1 u xs.length (ints (digs M xs.length v)) := by unfold OI at hO; rwa [digs_length] at hO
                  obtain ⟨A2, c2, rfl, hr2, -⟩ := own_form hO2
                  have hWx : Below w.heap.size w wr := hWz
                  clear hO hO2
                  go_wp2_with fail
                  refine (HEND.out wr A2 c2 v (RV.step h hWx) hr2).mono ?_
                  rintro e w9 ⟨rfl, rfl⟩
                  clear hr2
                  generalize bEnd xs M (digs M xs.length v) = en at *
                  by_cases hb0 : bb < 0
                  · have e1 := HBV.out
                    rw [if_pos (.inl hb0)] at e1
                    have HX := Lib.hid e1
                    clear e1
                    go_wp2
                    go_roundw
                    case rel => exact ⟨v + 1, by omega, by go_num, by rw [HBV1.out, HX.out], hWx⟩
                    case measure => (simp [intOf]) <;> omega
                  · by_cases hb1 : en < bb
                    · have e1 := HBV.out
                      rw [if_pos (.inr hb1)] at e1
                      have HX := Lib.hid e1
                      clear e1
                      go_wp2
                      go_roundw
                      case rel => exact ⟨v + 1, by omega, by go_num, by rw [HBV1.out, HX.out], hWx⟩
                      case measure => (simp [intOf]) <;> omega
                    · have e1 := HBV.out
                      rw [if_neg (by omega)] at e1
                      have HX := Lib.hid e1
                      clear e1
                      have hd1 : decide (en < bb) = false := decide_eq_false hb1
                      have hd0 : decide (bb < 0) = false := decide_eq_false hb0
                      clear hb0 hb1
                      go_wp2
                      go_roundw
                      case rel => exact ⟨v + 1, by omega, by go_num, by rw [HBV1.out, HX.out], hWx⟩
                      case measure => (simp [intOf]) <;> omega
            · obtain rfl : v = P := by omega
              have HLE : Hid (leastB xs M = bst xs M v) := Lib.hid (by
                rw [HE.out]
                obtain ⟨p, hp⟩ : ∃ p, v = p + 1 := ⟨v - 1, by have := HP1.out; omega⟩
                rw [hp]; rfl)
              generalize bst xs M v = bb at *
              go_wp2
              go_ret
              exact ⟨ret_int HLE.out.symm, hW⟩
end Go.Proofs.YtjicpdleacnlaaaDoor
