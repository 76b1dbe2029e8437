/- onlyOf, concerned, groupTable, GroupsMost: what the program computes. -/
import Derived.Test.YtgndokhehooplaaMost4
import Derived.StillTailTactics
set_option linter.unusedVariables false
set_option linter.unusedSimpArgs false
namespace Go.Proofs.Ytgndokhehooplaa
open Go.ChangeShapes Go.WideShapes Go.ChangeAt Go.RowKit

def concR : List Int → Nat
  | [] => 0
  | x :: t => (if x = 0 then 0 else 1) + 2 * concR t
theorem concR_emb : ∀ ow : List Int, concR ow = emb ow (fullS ow)
  | [] => rfl
  | x :: t => by
    have ih := concR_emb t
    unfold fullS at ih ⊢
    rw [concR, emb]
    by_cases hx : x = 0
    · rw [if_pos hx, if_pos hx, nz_cons_zero t hx, ih]; omega
    · rw [if_neg hx, if_neg hx, nz_cons t hx, List.length_cons, Nat.pow_succ]
      have hp := Nat.pow_pos (a := 2) (n := (nz t).length) (by omega)
      rw [show (2 ^ (nz t).length * 2 - 1) / 2 = 2 ^ (nz t).length - 1 by omega, show (2 ^ (nz t).length * 2 - 1) % 2 = 1 by omega, ih]
theorem concR_lt (ow : List Int) : concR ow < 2 ^ ow.length := by rw [concR_emb]; exact emb_lt ow _
theorem concR_take : ∀ (ow : List Int) (k : Nat), k < ow.length → concR (ow.take (k + 1)) = concR (ow.take k) + (if at0 ow k = 0 then 0 else 2 ^ k)
  | [], k, h => absurd h (by simp)
  | x :: t, 0, h => by simp [concR, at0]
  | x :: t, k + 1, h => by
    have := concR_take t k (by simpa using h)
    rw [List.take_succ_cons, List.take_succ_cons, concR, concR, this]
    have e : at0 (x :: t) (k + 1) = at0 t k := rfl
    rw [e, Nat.pow_succ]
    by_cases hy : at0 t k = 0
    · rw [if_pos hy, if_pos hy]; omega
    · rw [if_neg hy, if_neg hy]; omega
theorem concR_tlt (ow : List Int) (k : Nat) : concR (ow.take k) < 2 ^ k := by
  have h := concR_lt (ow.take k)
  have : (ow.take k).length ≤ k := by rw [List.length_take]; omega
  exact Nat.lt_of_lt_of_le h (Nat.pow_le_pow_right (by omega) this)
theorem or_add {c k : Nat} (h : c < 2 ^ k) : c ||| 2 ^ k = c + 2 ^ k := by
  have := Nat.two_pow_add_eq_or_of_lt h 1
  rw [Nat.mul_one] at this
  rw [Nat.or_comm, ← this]; omega
theorem and_bit : ∀ (k s : Nat), s &&& 2 ^ k = if s / 2 ^ k % 2 = 1 then 2 ^ k else 0
  | 0, s => by
    rw [Nat.pow_zero, Nat.and_one_is_mod, Nat.div_one]
    rcases Nat.mod_two_eq_zero_or_one s with e | e <;> rw [e] <;> rfl
  | k + 1, s => by
    obtain ⟨h1, h2⟩ := and_half s (2 ^ (k + 1))
    have e1 : 2 ^ (k + 1) / 2 = 2 ^ k := by rw [Nat.pow_succ]; omega
    have e2 : 2 ^ (k + 1) % 2 = 0 := by rw [Nat.pow_succ]; omega
    have e3 : s / 2 ^ (k + 1) = s / 2 / 2 ^ k := by rw [Nat.div_div_eq_div_mul, Nat.pow_succ, Nat.mul_comm]
    rw [e1, and_bit k (s / 2), ← e3] at h1
    rw [e2, Nat.mul_zero] at h2
    have e4 : 2 ^ (k + 1) = 2 * 2 ^ k := by rw [Nat.pow_succ]; omega
    by_cases hb : s / 2 ^ (k + 1) % 2 = 1
    · rw [if_pos hb] at h1 ⊢; omega
    · rw [if_neg hb] at h1 ⊢; omega
theorem pow_small {k : Nat} (hk : k ≤ 7) : 1 ≤ 2 ^ k ∧ 2 ^ k ≤ 128 := ⟨Nat.pow_pos (by omega), Nat.pow_le_pow_right (n := 2) (by omega) hk⟩
set_option maxHeartbeats 4000000 in
theorem concerned_any (A : Option Addr) (c : Nat) (ow : List Int) (w : World) (B : Nat) (h : IS w B A ow) (hl : ow.length ≤ 7) :
    Calls Try.prog 36 #[.slice A ow.length c] w fun e w' => e = .returned (.int .i64 (concR ow : Int)) ∧ w = w' := by
  go_enter Try.func36, Try.ntmps36
  go_wp2
  go_loop [3, 8] (fun st i => ∃ k : Nat, k ≤ ow.length ∧ i = .int .i64 k ∧ st = .int .i64 (concR (ow.take k) : Int)) (fun _ i => ow.length - (intOf i).toNat)
  case atStart => exact ⟨0, Nat.zero_le _, rfl, by simp [concR]⟩
  case round =>
    obtain ⟨k, hk, rfl, rfl⟩ := hrel
    by_cases hlt : k < ow.length
    · obtain ⟨b, off, rfl, hbl, hc⟩ := IS.at0_ h (by omega)
      have e1 := hc k hlt
      have HS := Lib.hid (concR_take ow k hlt)
      have hcl := concR_tlt ow k
      have HOR := Lib.hid (or_add hcl)
      obtain ⟨p1, p2⟩ := pow_small (show k ≤ 7 by omega)
      have hk64 : min k 64 = k := by omega
      have hPI : (2 : Int) ^ k = ((2 ^ k : Nat) : Int) := by simp
      have hor := or_i64 (concR (ow.take k)) (2 ^ k) (by omega) (by omega)
      rw [HOR.out] at hor
      clear hc HOR
      generalize concR (ow.take k) = cc at *
      generalize 2 ^ k = P at *
      generalize at0 ow k = x at *
      by_cases hx : x = 0
      · subst hx
        have HR := Lib.hid (show concR (ow.take (k + 1)) = cc by rw [HS.out]; simp)
        go_wp2
        go_round
        case rel => exact ⟨k + 1, by omega, by go_num, by first | (rw [HR.out]; go_num) | rw [HR.out]⟩
        case measure => (simp [intOf]) <;> omega
      · have hxb : (x == 0) = false := by rw [beq_eq_false_iff_ne]; exact hx
        have HR := Lib.hid (show concR (ow.take (k + 1)) = cc + P by rw [HS.out, if_neg hx])
        go_wp2
        go_round
        case rel => exact ⟨k + 1, by omega, by go_num, by first | (rw [HR.out]; go_num) | rw [HR.out]⟩
        case measure => (simp [intOf]) <;> omega
    · obtain rfl : k = ow.length := by omega
      rw [List.take_length]
      go_wp2
      go_ret
      exact ⟨rfl, rfl⟩
/-- What is owed to the first k people of a set, 0 for all others. -/
def pickK (ow : List Int) (s k : Nat) : List Int := (List.range ow.length).map fun j => if j < k ∧ s / 2 ^ j % 2 = 1 then at0 ow j else 0
theorem pickK_length (ow : List Int) (s k : Nat) : (pickK ow s k).length = ow.length := by simp [pickK]
theorem pickK_at (ow : List Int) (s k j : Nat) (h : j < ow.length) : at0 (pickK ow s k) j = if j < k ∧ s / 2 ^ j % 2 = 1 then at0 ow j else 0 := by
  rw [← at0_eq (by rw [pickK_length]; exact h)]; simp [pickK]
theorem ext_at0M {a b : List Int} (hl : a.length = b.length) (h : ∀ m, m < a.length → at0 a m = at0 b m) : a = b := by
  apply List.ext_getElem hl
  intro m h1 h2
  have := h m h1
  rwa [← at0_eq h1, ← at0_eq h2] at this
theorem pickK_zero (ow : List Int) (s : Nat) : pickK ow s 0 = List.replicate ow.length 0 := by
  refine ext_at0M (by simp [pickK_length]) fun m hm => ?_
  rw [pickK_length] at hm
  rw [pickK_at _ _ _ _ hm, if_neg (by omega)]
  simp [at0, hm]
theorem pickK_yes (ow : List Int) (s k : Nat) (h : k < ow.length) (hb : s / 2 ^ k % 2 = 1) : (pickK ow s k).set k (at0 ow k) = pickK ow s (k + 1) := by
  refine ext_at0M (by simp [pickK_length]) fun m hm => ?_
  rw [List.length_set, pickK_length] at hm
  rw [pickK_at _ _ (k + 1) _ hm]
  by_cases e : k = m
  · subst e
    rw [at0_set_eq _ _ _ (by rw [pickK_length]; exact h), if_pos ⟨by omega, hb⟩]
  · rw [at0_set_ne _ _ _ _ e, pickK_at _ _ _ _ hm]
    by_cases e2 : m < k ∧ s / 2 ^ m % 2 = 1
    · rw [if_pos e2, if_pos ⟨by omega, e2.2⟩]
    · rw [if_neg e2, if_neg (fun h => e2 ⟨by omega, h.2⟩)]
theorem pickK_no (ow : List Int) (s k : Nat) (hb : ¬ s / 2 ^ k % 2 = 1) : pickK ow s (k + 1) = pickK ow s k := by
  refine ext_at0M (by simp [pickK_length]) fun m hm => ?_
  rw [pickK_length] at hm
  rw [pickK_at _ _ _ _ hm, pickK_at _ _ _ _ hm]
  by_cases e2 : m < k ∧ s / 2 ^ m % 2 = 1
  · rw [if_pos e2, if_pos ⟨by omega, e2.2⟩]
  · rw [if_neg e2, if_neg (fun h => e2 ⟨by
      rcases Nat.lt_or_ge m k with h1 | h1
      · exact h1
      · have : m = k := by omega
        subst this; exact absurd h.2 hb, h.2⟩)]
theorem pick_sum (ow : List Int) (s : Nat) : ∀ k, k ≤ ow.length → ((pickK ow s ow.length).take k).sum = sumM (ow.take k) s
  | 0, _ => by simp [sumM]
  | k + 1, hk => by
    have hkl : k < (pickK ow s ow.length).length := by rw [pickK_length]; omega
    rw [take_sum_succ _ k hkl, pick_sum ow s k (by omega), sumM_take ow k s (by omega), at0_eq hkl, pickK_at _ _ _ _ (by omega)]
    congr 1
    by_cases e : s / 2 ^ k % 2 = 1
    · rw [if_pos e, if_pos ⟨by omega, e⟩]
    · rw [if_neg e, if_neg (fun h => e h.2)]
theorem pick_all (ow : List Int) (s : Nat) : (pickK ow s ow.length).sum = sumM ow s := by
  have h := pick_sum ow s ow.length (Nat.le_refl _)
  rwa [List.take_length, List.take_of_length_le (by rw [pickK_length]; exact Nat.le_refl _)] at h
theorem pick_mem {ow : List Int} (s : Nat) (hb : ∀ k, -9999 ≤ at0 ow k ∧ at0 ow k ≤ 9999) : ∀ x ∈ pickK ow s ow.length, -1000000 ≤ x ∧ x ≤ 1000000 := by
  intro x hx
  obtain ⟨k, hk, e⟩ := List.getElem_of_mem hx
  rw [at0_eq hk, pickK_at _ _ _ _ (by rw [pickK_length] at hk; exact hk)] at e
  have := hb k
  split at e <;> omega
theorem ints_replM (n : Nat) : ints (List.replicate n 0) = List.replicate n (.int .i64 0) := by simp [ints]
theorem ints_setM (xs : List Int) (i : Nat) (x : Int) : (ints xs).set i (.int .i64 x) = ints (xs.set i x) := by simp [ints, List.map_set]
set_option maxHeartbeats 4000000 in
theorem onlyOf_any (A : Option Addr) (c : Nat) (ow : List Int) (s : Nat) (w : World) (h : IS w w.heap.size A ow) (hl : ow.length ≤ 7) (hs : s < 1000) :
    Calls Try.prog 53 #[.slice A ow.length c, .int .i64 (s : Int)] w (RetI w (pickK ow s ow.length)) := by
  have hmk := run_make_row' (P := Try.prog) 22 3 (.int .i64 0) 8 Try.underlying22 int_info rfl .i64 .i64 ow.length (by omega) (by omega)
  go_enter Try.func53, Try.ntmps53
  go_wp2
  clear hmk
  go_loopw [13] (fun i wr => ∃ k : Nat, k ≤ ow.length ∧ i = .int .i64 k ∧ Blk wr w.heap.size 3 (ints (pickK ow s k)) ∧ Below w.heap.size w wr) (fun i _ => ow.length - (intOf i).toNat)
  case atStart => exact ⟨0, Nat.zero_le _, rfl, by rw [pickK_zero, ints_replM, ← filled_nil]; exact blk_made w _ _ _, (Below.refl _ _).alloc (Nat.le_refl _) _⟩
  case round =>
    obtain ⟨k, hk, rfl, hB, hW⟩ := hrel
    by_cases hlt : k < ow.length
    · obtain ⟨b, off, rfl, hbl, hc⟩ := IS.at0_ (RV.below h hW) (by omega)
      have e1 := hc k hlt
      obtain ⟨p1, p2⟩ := pow_small (show k ≤ 7 by omega)
      have hk64 : min k 64 = k := by omega
      have hPI : (2 : Int) ^ k = ((2 ^ k : Nat) : Int) := by simp
      have hand := and_i64 s (2 ^ k) (by omega) (by omega)
      have HAB := Lib.hid (and_bit k s)
      have hcell := hB.cell k (by rw [ints_length, pickK_length]; exact hlt)
      have hfr := hB.frozen k
      have HY := Lib.hid (fun hb => pickK_yes ow s k hlt hb)
      have HN := Lib.hid (fun hb => pickK_no ow s k hb)
      have HB2 := Lib.hid (hB.set_ k (.int .i64 (at0 ow k)))
      have HBB := Lib.hid hB
      clear hc hB
      generalize at0 ow k = x at *
      by_cases hb : s / 2 ^ k % 2 = 1
      · rw [HAB.out, if_pos hb] at hand
        have HR := Lib.hid (HY.out hb)
        clear hb HAB
        generalize 2 ^ k = P at *
        have hpz : ((P : Int) == 0) = false := by rw [beq_eq_false_iff_ne]; omega
        have hpn : ¬ P = 0 := by omega
        go_wp2
        go_roundw
        case rel => exact ⟨k + 1, by omega, by go_num, by rw [← HR.out, ← ints_setM]; exact HB2.out, hW.setCell (Nat.le_refl _) _⟩
        case measure => (simp [intOf]) <;> omega
      · rw [HAB.out, if_neg hb] at hand
        have HR := Lib.hid (HN.out hb)
        clear hb HAB
        generalize 2 ^ k = P at *
        go_wp2
        go_roundw
        case rel => exact ⟨k + 1, by omega, by go_num, by rw [HR.out]; exact HBB.out, hW⟩
        case measure => (simp [intOf]) <;> omega
    · obtain rfl : k = ow.length := by omega
      have HBB := Lib.hid hB
      clear hB
      go_wp2
      go_ret
      refine ⟨_, rfl, ?_, hW⟩
      have := HBB.out.ownI (Nat.le_refl _) (by rw [pickK_length]; simp [maxLen]; omega)
      rwa [pickK_length] at this
end Go.Proofs.Ytgndokhehooplaa
