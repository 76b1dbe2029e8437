/- BurnList, BurnLeast: what the program and the reference compute. -/
import Derived.Test.YtjicpdleacnlaaaDoorBurn1
import Derived.Deep.LoopGhost
set_option linter.unusedVariables false
set_option linter.unusedSimpArgs false
namespace Go.Proofs.YtjicpdleacnlaaaDoor
open Go.ChangeShapes Go.WideShapes Go.ChangeAt Go.RowKit

theorem nxt_length (m : Int) : ∀ l, (nxt m l).1.length = l.length
  | [] => rfl
  | d :: t => by
    rw [nxt]; split
    · rfl
    · simp [nxt_length m t]
/-- A list whose first k numbers were made 0. -/
def zk (l : List Int) (k : Nat) : List Int := List.replicate k 0 ++ l.drop k
theorem zk_length (l : List Int) (k : Nat) (h : k ≤ l.length) : (zk l k).length = l.length := by simp [zk]; omega
theorem zk_at (l : List Int) (k : Nat) (h : k < l.length) : at0 (zk l k) k = at0 l k := by
  simp only [zk, at0, List.getD_eq_getElem?_getD]
  rw [List.getElem?_append_right (by simp)]
  simp
theorem zk_set (l : List Int) (k : Nat) (h : k < l.length) (x : Int) : (zk l k).set k x = List.replicate k 0 ++ x :: l.drop (k + 1) := by
  rw [zk, List.drop_eq_getElem_cons h, List.set_append_right _ _ (by simp), List.length_replicate, Nat.sub_self, List.set_cons_zero]
theorem zk_next (l : List Int) (k : Nat) (h : k < l.length) : (zk l k).set k 0 = zk l (k + 1) := by
  rw [zk_set l k h, zk, List.replicate_succ']
  simp
theorem nxt_zk (m : Int) : ∀ (l : List Int) (k : Nat), k ≤ l.length → (∀ j, j < k → ¬ at0 l j + 1 < m) → nxt m l = (List.replicate k 0 ++ (nxt m (l.drop k)).1, (nxt m (l.drop k)).2)
  | l, 0, _, _ => by simp
  | [], k + 1, h, _ => by simp at h
  | d :: t, k + 1, h, hj => by
    have h0 := hj 0 (by omega)
    have ih := nxt_zk m t k (by simpa using h) fun j hjk => by
      have := hj (j + 1) (by omega)
      simpa [at0] using this
    have h0' : ¬ d + 1 < m := by simpa [at0] using h0
    rw [nxt, if_neg h0', ih]
    simp [List.replicate_succ]
theorem nxt_hit (m : Int) (l : List Int) (k : Nat) (h : k < l.length) (hj : ∀ j, j < k → ¬ at0 l j + 1 < m) (hk : at0 l k + 1 < m) : nxt m l = ((zk l k).set k (at0 l k + 1), true) := by
  rw [nxt_zk m l k (by omega) hj, List.drop_eq_getElem_cons h, nxt, at0_eq h, if_pos hk, zk_set l k h]
theorem nxt_end (m : Int) (l : List Int) (hj : ∀ j, j < l.length → ¬ at0 l j + 1 < m) : nxt m l = (zk l l.length, false) := by
  rw [nxt_zk m l l.length (Nat.le_refl _) hj, List.drop_length, nxt, zk, List.drop_length]
theorem chg_blk {w : World} {g : Nat} (p : Addr) (hp : p.block = g) (u : Value) : Chg g (g + 1) w (w.setCell p u) :=
  ⟨rfl, rfl, rfl, by simp [World.setCell], fun k hk ho => Below.heap_setCell _ _ _ _ (by rw [hp]; omega)⟩
theorem chg_likeB {lo hi d : Nat} {w X Y : World} (h : Chg lo hi w X) (e : Y = { X with drawn := d }) : Chg lo hi w Y := by
  subst e
  exact ⟨h.os, h.tape, h.output, h.size, h.block⟩
set_option maxRecDepth 20000 in
set_option maxHeartbeats 1000000 in
theorem nextList_any (g : Nat) (l : List Int) (M : Nat) (w : World) (h : Blk w g 3 (ints l)) (hl : l.length ≤ 1048576) (hM : M ≤ 1000) (hx : ∀ x ∈ l, 0 ≤ x ∧ x ≤ 1000) :
    Calls Tryd.prog 55 #[.slice (some ⟨g, 0, none⟩) l.length l.length, .int .i64 M] w fun e w' => e = .returned (.bool (nxt M l).2) ∧ Blk w' g 3 (ints (nxt M l).1) ∧ Chg g (g + 1) w w' := by
  have HX := Lib.hid (fun k (hk : k < l.length) => hx _ (at0_mem hk))
  clear hx
  go_enter Tryd.func55, Tryd.ntmps55
  go_wp2
  go_loopw [8] (fun i wr => ∃ k : Nat, k ≤ l.length ∧ i = .int .i64 k ∧ Hid (∀ j, j < k → ¬ at0 l j + 1 < (M : Int)) ∧ Blk wr g 3 (ints (zk l k)) ∧ Chg g (g + 1) w wr) (fun i _ => l.length - (intOf i).toNat)
  case atStart => exact ⟨0, Nat.zero_le _, rfl, Lib.hid (fun j hj => by omega), by simpa [zk] using h, Chg.refl _ _ _⟩
  case round =>
    obtain ⟨k, hk, rfl, HJ, hB, hC⟩ := hrel
    by_cases hlt : k < l.length
    · have e1 := hB.at0B k (by rw [zk_length l k hk]; exact hlt)
      rw [zk_at l k hlt] at e1
      have f1 := hB.frozen k
      have hxb := HX.out k hlt
      have HB1 := Lib.hid (hB.setB k (at0 l k + 1))
      have HB2 := Lib.hid (show Blk ((wr.setCell ⟨g, k, none⟩ (.int .i64 (at0 l k + 1))).setCell ⟨g, k, none⟩ (.int .i64 0)) g 3 (ints (zk l (k + 1))) by
        have := (hB.setB k (at0 l k + 1)).setB k 0
        rw [List.set_set, zk_next l k hlt] at this
        exact this)
      by_cases hc : at0 l k + 1 < (M : Int)
      · have HN := Lib.hid (nxt_hit (M : Int) l k hlt HJ.out hc)
        clear hB
        generalize at0 l k = x at *
        go_wp2
        go_ret
        rw [HN.out]
        exact ⟨rfl, HB1.out, hC.trans (chg_blk ⟨g, k, none⟩ rfl _)⟩
      · have HJ2 : Hid (∀ j, j < k + 1 → ¬ at0 l j + 1 < (M : Int)) := Lib.hid (fun j hj => by
          rcases Nat.lt_or_ge j k with h1 | h1
          · exact HJ.out j h1
          · obtain rfl : j = k := by omega
            exact hc)
        clear hB
        generalize at0 l k = x at *
        go_wp2
        go_roundw
        case rel => exact ⟨k + 1, by omega, by go_num, HJ2, HB2.out, (hC.trans (chg_blk ⟨g, k, none⟩ rfl _)).trans (chg_blk ⟨g, k, none⟩ rfl _)⟩
        case measure => (simp [intOf]) <;> omega
    · obtain rfl : k = l.length := by omega
      have HN := Lib.hid (nxt_end (M : Int) l HJ.out)
      have HB := Lib.hid hB
      clear hB
      go_wp2
      go_ret
      rw [HN.out]
      exact ⟨rfl, HB.out, hC⟩
end Go.Proofs.YtjicpdleacnlaaaDoor
