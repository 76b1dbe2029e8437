/- Contracts of the small functions over slices of orders (two numbers each). -/
import Derived.Test.YtocafinppjfeeaaRows
import Derived.Test.YtocafinppjfeeaaMem
import Derived.Test.YtocafinppjfeeaaInts
import Derived.StillTailTactics
namespace Go.Proofs.Ytocafinppjfeeaa
open Go.ChangeShapes Go.WideShapes Go.ChangeAt Go.RowKit

abbrev Ord := Int × Int
def encO (o : Ord) : List Value := [.int .i64 o.1, .int .i64 o.2]
theorem encO_len : ∀ o : Ord, (encO o).length = 2 := fun _ => rfl
def ords (os : List Ord) : List Value := flat encO os
theorem ords_length (os : List Ord) : (ords os).length = os.length * 2 := flat_length encO_len os
theorem ords_one (os : List Ord) : ∀ u ∈ ords os, u.oneCell' = true := by
  intro u hu
  simp only [ords, flat, List.mem_flatMap] at hu
  obtain ⟨o, _, h⟩ := hu
  simp [encO] at h
  rcases h with rfl | rfl <;> rfl
theorem ords_take_succ (os : List Ord) (k : Nat) (h : k < os.length) : ords (os.take (k + 1)) = ords (os.take k) ++ [.int .i64 os[k].1] ++ [.int .i64 os[k].2] := by
  rw [ords, flat_take_succ os k h]; simp [ords, encO]
def SO (w : World) (B : Nat) (A : Option Addr) (os : List Ord) : Prop := RV w B A (ords os)
section
variable {w w' : World} {B B' : Nat} {A : Option Addr} {os : List Ord}
theorem SO.at_ (h : SO w B A os) (hp : 0 < os.length) : ∃ b off, A = some ⟨b, off, none⟩ ∧ b < B ∧
    ∀ j (h : j < os.length), w.cell? ⟨b, off + j * 2, none⟩ = some (.int .i64 os[j].1) ∧ w.cell? ⟨b, off + j * 2 + 1, none⟩ = some (.int .i64 os[j].2) := by
  obtain ⟨b, off, e, hb, hc⟩ := RV.flatAt encO_len h (by omega) hp
  refine ⟨b, off, e, hb, fun j hj => ⟨?_, ?_⟩⟩
  · have := hc j hj 0 _ rfl
    simpa using this
  · have := hc j hj 1 _ rfl
    rwa [← Nat.add_assoc] at this
theorem SO.nil (w : World) (B : Nat) (A : Option Addr) : SO w B A [] := RV.nil w B A
theorem SO.below (h : SO w B A os) (hb : Below B w w') : SO w' B A os := RV.below h hb
theorem SO.more (h : SO w B A os) (hB : B ≤ B') : SO w B' A os := RV.more h hB
theorem SO.tight (h : SO w B A os) : SO w w.heap.size A os := RV.tight h
theorem SO.grown (h : SO w B A os) {row : Option Nat} (hg : w.grownBy w' row) (hr : ∀ g, row = some g → B ≤ g) : SO w' B A os := RV.grown h hg hr
end
def OO (w : World) (base : Nat) (v : Value) (os : List Ord) : Prop := w.ownsRow base 58 2 v os.length (ords os)
section
variable {w w' : World} {base base' : Nat} {v : Value} {os : List Ord}
theorem OO.nil (w : World) (base : Nat) : OO w base (.slice none 0 0) [] := World.ownsRow_nil w base _ 2
theorem OO.form (h : OO w base v os) : ∃ A c, v = .slice A os.length c ∧ SO w w.heap.size A os ∧ os.length ≤ c ∧ c ≤ maxLen ∧ (∀ ad, A = some ad → base ≤ ad.block ∧ ad.off = 0 ∧ ad.spot = none) := own_form h
theorem OO.below (h : OO w base v os) (hb : Below w.heap.size w w') : OO w' base v os := own_below h hb
theorem OO.mono (h : OO w base v os) (hb : base' ≤ base) : OO w base' v os := own_mono h hb
theorem OO.grown (h : OO w base v os) {row : Option Nat} (hg : w.grownBy w' row) (hne : v.ownBlock = none ∨ v.ownBlock ≠ row) : OO w' base v os := h.kept hg hne
theorem OO.lt (h : OO w base v os) : ∀ k, v.ownBlock = some k → base ≤ k ∧ k < w.heap.size := World.ownsRow.lt h
end
theorem Blk.ownO {w : World} {g base : Nat} {os : List Ord} (h : Blk w g 58 (ords os)) (hb : base ≤ g) (hm : os.length ≤ maxLen) : OO w base (.slice (some ⟨g, 0, none⟩) os.length os.length) os :=
  h.own hb (ords_length os) hm
def RetO (w : World) (os : List Ord) (e : Ending) (w' : World) : Prop := ∃ v, e = .returned v ∧ OO w' w.heap.size v os ∧ Below w.heap.size w w'

theorem order_info : (Try.prog.info? 58).map (fun i => (i.zero, i.size, i.bytes)) = some (some (.agg #[.int .i64 0, .int .i64 0]), 2, 16) := by kernel_rfl

set_option maxHeartbeats 1000000 in
theorem toOrder_any (c s : Int) (w : World) :
    Calls Try.prog 52 #[.agg #[.int .i64 c, .int .i64 s]] w fun e w' => e = .returned (.agg #[.int .i64 c, .int .i64 s]) ∧ Below w.heap.size w w' := by
  go_enter Try.func52, Try.ntmps52
  go_wp2
  refine bodyPost_ret (v := .agg #[.int .i64 c, .int .i64 s]) (by simp [results, Try.results52, go_sem]) rfl ⟨rfl, ?_⟩
  exact below_al (below_al (below_al (Below.refl _ _) _) _) _

set_option maxHeartbeats 1000000 in
theorem toOrderS_any (A : Option Addr) (c : Nat) (os : List Ord) (w : World) (h : SO w w.heap.size A os) (hl : os.length ≤ 1048576) :
    Calls Try.prog 16 #[.slice A os.length c] w (RetO w os) := by
  have hmk := run_make_rowN (P := Try.prog) 25 58 #[.int .i64 0, .int .i64 0] 2 16 Try.underlying25 order_info .i64 .i64 os.length (by omega) (by omega)
  go_enter Try.func16, Try.ntmps16
  go_wp2
  clear hmk
  go_loopw [4] (fun i wr => ∃ k : Nat, k ≤ os.length ∧ i = .int .i64 k ∧ Blk wr w.heap.size 58 (filled (.int .i64 0) (ords (os.take k)) (os.length * 2)) ∧ Below w.heap.size w wr) (fun i _ => os.length - (intOf i).toNat)
  case atStart => exact ⟨0, Nat.zero_le _, rfl, by simpa [ords, flat] using blk_made2 w _ _ _, (Below.refl _ _).alloc (Nat.le_refl _) _⟩
  case round =>
    obtain ⟨k, hk, rfl, hB, hW⟩ := hrel
    by_cases hlt : k < os.length
    · have hlk : (ords (os.take k)).length = k * 2 := by rw [ords_length, List.length_take]; omega
      obtain ⟨b, off, rfl, hbl, hc⟩ := (h.below hW).at_ (by omega)
      obtain ⟨hck1, hck2⟩ := hc k hlt
      have HLK := Lib.hid hlk
      clear hlk
      go_wp2_with fail
      refine (toOrder_any _ _ _).mono ?_
      rintro e w1 ⟨rfl, b1⟩
      have hB1 := hB.below b1 hB.lt
      obtain ⟨hg1, hg2⟩ := hB1.fillAt HLK.out (by omega)
      have hB2 := hB1.fill HLK.out (by omega) (.int .i64 os[k].1)
      have hlk2 : (ords (os.take k) ++ [Value.int .i64 os[k].1]).length = k * 2 + 1 := by rw [List.length_append, HLK.out]; rfl
      obtain ⟨hg3, hg4⟩ := hB2.fillAt hlk2 (by omega)
      have hB3 := hB2.fill hlk2 (by omega) (.int .i64 os[k].2)
      rw [← ords_take_succ os k hlt] at hB3
      have HB3 := Lib.hid hB3
      have hW1 := below_step hW b1
      clear hB3 hB2 hB1 hB hlk2 HLK
      go_wp2
      go_roundw
      case rel => exact ⟨k + 1, by omega, by go_num, HB3.out, (hW1.setCell (Nat.le_refl _) _).setCell (Nat.le_refl _) _⟩
      case measure => simp [intOf]; omega
    · obtain rfl : k = os.length := by omega
      go_wp2
      go_ret
      refine ⟨_, rfl, ?_, hW⟩
      rw [filled_all _ _ _ (by rw [ords_length, List.length_take]; omega), List.take_length] at hB
      exact hB.ownO (Nat.le_refl _) (by simp [maxLen]; omega)

set_option maxHeartbeats 1000000 in
theorem eqOrder_any (c s : Int) (w : World) :
    Calls Try.prog 54 #[.agg #[.int .i64 c, .int .i64 s], .agg #[.int .i64 c, .int .i64 s]] w fun e w' => e = .returned (.bool true) ∧ Below w.heap.size w w' := by
  go_enter Try.func54, Try.ntmps54
  go_wp2
  go_ret
  exact ⟨rfl, below_al (below_al (Below.refl _ _) _) _⟩

set_option maxHeartbeats 1000000 in
theorem eqOrderS_any (A A' : Option Addr) (c c' : Nat) (os : List Ord) (w : World) (h : SO w w.heap.size A os) (h' : SO w w.heap.size A' os) (hl : os.length ≤ 1048576) :
    Calls Try.prog 18 #[.slice A os.length c, .slice A' os.length c'] w (RetE w) := by
  go_enter Try.func18, Try.ntmps18
  go_wp2
  go_loopw [5] (fun i wr => ∃ k : Nat, k ≤ os.length ∧ i = .int .i64 k ∧ Below w.heap.size w wr) (fun i _ => os.length - (intOf i).toNat)
  case atStart => exact ⟨0, Nat.zero_le _, rfl, Below.refl _ _⟩
  case round =>
    obtain ⟨k, hk, rfl, hW⟩ := hrel
    by_cases hlt : k < os.length
    · obtain ⟨b, off, rfl, hbl, hc⟩ := (h.below hW).at_ (by omega)
      obtain ⟨b', off', rfl, hbl', hc'⟩ := (h'.below hW).at_ (by omega)
      obtain ⟨hck1, hck2⟩ := hc k hlt
      obtain ⟨hck3, hck4⟩ := hc' k hlt
      go_wp2_with fail
      go_still_tail 8, (by kernel_rfl)
      go_wp2_with fail
      refine (eqOrder_any _ _ _).mono ?_
      rintro e w1 ⟨rfl, b1⟩
      go_wp2
      go_roundw
      case rel => exact ⟨k + 1, by omega, by go_num, below_step hW.drew b1⟩
      case measure => simp [intOf]; omega
    · go_wp2
      go_ret
      exact ⟨rfl, hW⟩
set_option maxHeartbeats 1000000 in
theorem szOrderS_any (A : Option Addr) (n c : Nat) (left : Int) (w : World) (h0 : 0 ≤ left) (h1 : left ≤ 1048576) (hn : n ≤ 9223372036854775807) :
    Calls Try.prog 14 #[.slice A n c, .int .i64 left] w fun e w' => e = .returned (.int .i64 (szR left n)) ∧ w = w' := by
  by_cases h : left < n
  · have e : szR left n = -1 := by simp [szR, h]
    have E := Lib.hid e
    clear e
    go_enter Try.func14, Try.ntmps14
    go_wp2
    go_ret
    exact ⟨ret_int E.out.symm, rfl⟩
  · have e : szR left n = left - n := by simp [szR, h]
    have E := Lib.hid e
    clear e
    go_enter Try.func14, Try.ntmps14
    go_wp2
    go_ret
    exact ⟨ret_int E.out.symm, rfl⟩
set_option maxHeartbeats 2000000 in
theorem markOrderS_r (A : Option Addr) (c n : Nat) (cs : List Value) (m : Int) (w : World) (lo hi : Nat) (h : OwnR w lo hi 58 2 (.slice A n c) n cs) (hl : n ≤ 1048576) (h0 : 0 ≤ m) (h1 : m ≤ 1000000000) :
    Calls Try.prog 24 #[.slice A n c, .int .i64 m] w (MarkP w lo hi 58 2 A c n m) := by
  have hcl := h.1.1
  rcases h.1.2 with ⟨hv, hn⟩ | ⟨g, cap, cur, hv, hb, hg, hnc, hcm, hcs, htake⟩
  · injection hv with e1 e2 e3
    subst e1 e2 e3
    have hx : cs = [] := List.eq_nil_of_length_eq_zero (by simpa using hcl)
    subst hx
    go_enter Try.func24, Try.ntmps24
    go_wp2
    refine wp_loop_rounds 1 ?_
    rw [rounds_succ]
    go_wp2
    go_ret
    exact ⟨by simp, by simpa [marks, ints] using h, Chg.refl _ _ _⟩
  · injection hv with e1 e2 e3
    subst e1 e3
    have hO := h.1
    have H := Lib.hid h
    have hgl := h.2 g rfl
    have HT := Lib.hid htake
    have HCL := Lib.hid hcl
    have HCS := Lib.hid hcs
    clear h htake hcl hcs hg
    go_enter Try.func24, Try.ntmps24
    go_wp2
    go_loopw [1, 5] (fun q i wr => ∃ k : Nat, k ≤ n ∧ i = .int .i64 k ∧ q = .int .i64 (m + 2 * k) ∧ wr.ownsRow lo 58 2 (.slice (some ⟨g, 0, none⟩) n c) n (ints (marks m (k * 2)) ++ cs.drop (k * 2)) ∧ w.grownBy wr (some g)) (fun _ i _ => n - (intOf i).toNat)
    case atStart => exact ⟨0, Nat.zero_le _, rfl, by simp, by simpa [marks, ints] using hO, World.grownBy.refl _ _⟩
    case round =>
      obtain ⟨k, hk, rfl, rfl, hO, hW⟩ := hrel
      by_cases hlt : k < n
      · have hx1 := own_cell hO (k * 2) (by omega)
        obtain ⟨u1, hc1⟩ := hx1
        have hc2 := hO.frozenAt (k * 2)
        obtain ⟨hO2, hW2⟩ := hO.stored (k * 2) (.int .i64 (m + 2 * k))
        have e1 := marks_cells_set m cs (k * 2) (by rw [HCL.out]; omega)
        rw [show m + ((k * 2 : Nat) : Int) = m + 2 * (k : Int) by omega] at e1
        rw [e1] at hO2
        have hx3 := own_cell hO2 (k * 2 + 1) (by omega)
        obtain ⟨u3, hc3⟩ := hx3
        have hc4 := hO2.frozenAt (k * 2 + 1)
        obtain ⟨hO3, hW3⟩ := hO2.stored (k * 2 + 1) (.int .i64 (m + 2 * k + 1))
        have e2 := marks_cells_set m cs (k * 2 + 1) (by rw [HCL.out]; omega)
        rw [show m + ((k * 2 + 1 : Nat) : Int) = m + 2 * (k : Int) + 1 by omega, show k * 2 + 1 + 1 = (k + 1) * 2 by omega] at e2
        rw [e2] at hO3
        have HO3 := Lib.hid hO3
        clear hO2 hO hO3 e1 e2
        go_wp2
        go_roundw
        case rel => exact ⟨k + 1, by omega, by go_num, by go_num, HO3.out, grown_trans (grown_trans hW hW2) hW3⟩
        case measure => simp [intOf]; omega
      · obtain rfl : k = n := by omega
        go_wp2
        go_ret
        have e : cs.drop (k * 2) = [] := List.drop_of_length_le (by rw [HCL.out]; omega)
        rw [e, List.append_nil] at hO
        refine ⟨rfl, ⟨by rw [Nat.mul_comm 2 k]; exact hO, H.out.2⟩, Chg.of_grown hW fun g' hg' => ?_⟩
        cases hg'
        exact ⟨hb, hgl⟩
set_option maxHeartbeats 1000000 in
theorem heldOrderS_r (A : Option Addr) (c n : Nat) (m : Int) (w : World) (B : Nat) (h : RV w B A (ints (marks m (2 * n)))) (hl : n ≤ 1048576) (h0 : 0 ≤ m) (h1 : m ≤ 1000000000) :
    Calls Try.prog 25 #[.slice A n c, .int .i64 m] w fun e w' => e = .returned (.int .i64 (m + ((2 : Nat) : Int) * n)) ∧ w = w' := by
  go_enter Try.func25, Try.ntmps25
  go_wp2
  go_loop [1, 5] (fun q i => ∃ k : Nat, k ≤ n ∧ i = .int .i64 k ∧ q = .int .i64 (m + 2 * k)) (fun _ i => n - (intOf i).toNat)
  case atStart => exact ⟨0, Nat.zero_le _, rfl, by simp⟩
  case round =>
    obtain ⟨k, hk, rfl, rfl⟩ := hrel
    by_cases hlt : k < n
    · obtain ⟨b, off, rfl, hbl, hc⟩ := IS.at_ h (by rw [marks_length]; omega)
      have hck := hc (k * 2) (by rw [marks_length]; omega)
      have hck2 := hc (k * 2 + 1) (by rw [marks_length]; omega)
      rw [marks_get] at hck hck2
      rw [show m + ((k * 2 : Nat) : Int) = m + 2 * (k : Int) by omega] at hck
      rw [show m + ((k * 2 + 1 : Nat) : Int) = m + 2 * (k : Int) + 1 by omega, ← Nat.add_assoc] at hck2
      clear hc
      go_wp2
      go_round
      case rel => exact ⟨k + 1, by omega, by go_num, by go_num⟩
      case measure => simp [intOf]; omega
    · obtain rfl : k = n := by omega
      go_wp2
      go_ret
      exact ⟨rfl, rfl⟩
theorem eqOrderS_e (A A' : Option Addr) (c c' : Nat) (os : List Ord) (w : World) (h : RV w w.heap.size A (ords os)) (h' : RV w w.heap.size A' (ords os)) (hl : os.length ≤ 1048576) :
    Calls Try.prog 18 #[.slice A os.length c, .slice A' os.length c'] w (RetE w) := eqOrderS_any A A' c c' os w h h' hl
end Go.Proofs.Ytocafinppjfeeaa
