/- Contracts of the small functions over slices of dishes (two numbers each). -/
import Derived.Test.YtddhbephpkmnnaaRows
import Derived.Test.YtddhbephpkmnnaaMem
import Derived.Test.YtddhbephpkmnnaaInts
import Derived.StillTailTactics
namespace Go.Proofs.Ytddhbephpkmnnaa
open Go.ChangeShapes Go.WideShapes Go.ChangeAt Go.RowKit

abbrev Dsh := Int × Int
def encD (o : Dsh) : List Value := [.int .i64 o.1, .int .i64 o.2]
theorem encD_len : ∀ o : Dsh, (encD o).length = 2 := fun _ => rfl
def dishes (os : List Dsh) : List Value := flat encD os
theorem dishes_length (os : List Dsh) : (dishes os).length = os.length * 2 := flat_length encD_len os
theorem dishes_one (os : List Dsh) : ∀ u ∈ dishes os, u.oneCell' = true := by
  intro u hu
  simp only [dishes, flat, List.mem_flatMap] at hu
  obtain ⟨o, _, h⟩ := hu
  simp [encD] at h
  rcases h with rfl | rfl <;> rfl
theorem dishes_take_succ (os : List Dsh) (k : Nat) (h : k < os.length) : dishes (os.take (k + 1)) = dishes (os.take k) ++ [.int .i64 os[k].1] ++ [.int .i64 os[k].2] := by
  rw [dishes, flat_take_succ os k h]; simp [dishes, encD]
def SD (w : World) (B : Nat) (A : Option Addr) (os : List Dsh) : Prop := RV w B A (dishes os)
section
variable {w w' : World} {B B' : Nat} {A : Option Addr} {os : List Dsh}
theorem SD.at_ (h : SD w B A os) (hp : 0 < os.length) : ∃ b off, A = some ⟨b, off, none⟩ ∧ b < B ∧
    ∀ j (h : j < os.length), w.cell? ⟨b, off + j * 2, none⟩ = some (.int .i64 os[j].1) ∧ w.cell? ⟨b, off + j * 2 + 1, none⟩ = some (.int .i64 os[j].2) := by
  obtain ⟨b, off, e, hb, hc⟩ := RV.flatAt encD_len h (by omega) hp
  refine ⟨b, off, e, hb, fun j hj => ⟨?_, ?_⟩⟩
  · have := hc j hj 0 _ rfl
    simpa using this
  · have := hc j hj 1 _ rfl
    rwa [← Nat.add_assoc] at this
theorem SD.nil (w : World) (B : Nat) (A : Option Addr) : SD w B A [] := RV.nil w B A
theorem SD.below (h : SD w B A os) (hb : Below B w w') : SD w' B A os := RV.below h hb
theorem SD.more (h : SD w B A os) (hB : B ≤ B') : SD w B' A os := RV.more h hB
theorem SD.tight (h : SD w B A os) : SD w w.heap.size A os := RV.tight h
theorem SD.grown (h : SD w B A os) {row : Option Nat} (hg : w.grownBy w' row) (hr : ∀ g, row = some g → B ≤ g) : SD w' B A os := RV.grown h hg hr
end
def OD (w : World) (base : Nat) (v : Value) (os : List Dsh) : Prop := w.ownsRow base 58 2 v os.length (dishes os)
section
variable {w w' : World} {base base' : Nat} {v : Value} {os : List Dsh}
theorem OD.nil (w : World) (base : Nat) : OD w base (.slice none 0 0) [] := World.ownsRow_nil w base _ 2
theorem OD.form (h : OD w base v os) : ∃ A c, v = .slice A os.length c ∧ SD w w.heap.size A os ∧ os.length ≤ c ∧ c ≤ maxLen ∧ (∀ ad, A = some ad → base ≤ ad.block ∧ ad.off = 0 ∧ ad.spot = none) := own_form h
theorem OD.below (h : OD w base v os) (hb : Below w.heap.size w w') : OD w' base v os := own_below h hb
theorem OD.mono (h : OD w base v os) (hb : base' ≤ base) : OD w base' v os := own_mono h hb
theorem OD.grown (h : OD w base v os) {row : Option Nat} (hg : w.grownBy w' row) (hne : v.ownBlock = none ∨ v.ownBlock ≠ row) : OD w' base v os := h.kept hg hne
theorem OD.lt (h : OD w base v os) : ∀ k, v.ownBlock = some k → base ≤ k ∧ k < w.heap.size := World.ownsRow.lt h
end
theorem Blk.ownD {w : World} {g base : Nat} {os : List Dsh} (h : Blk w g 58 (dishes os)) (hb : base ≤ g) (hm : os.length ≤ maxLen) : OD w base (.slice (some ⟨g, 0, none⟩) os.length os.length) os :=
  h.own hb (dishes_length os) hm
def RetD (w : World) (os : List Dsh) (e : Ending) (w' : World) : Prop := ∃ v, e = .returned v ∧ OD w' w.heap.size v os ∧ Below w.heap.size w w'

theorem dish_info : (Try.prog.info? 58).map (fun i => (i.zero, i.size, i.bytes)) = some (some (.agg #[.int .i64 0, .int .i64 0]), 2, 16) := by kernel_rfl

set_option maxHeartbeats 1000000 in
theorem toDish_any (c s : Int) (w : World) :
    Calls Try.prog 49 #[.agg #[.int .i64 c, .int .i64 s]] w fun e w' => e = .returned (.agg #[.int .i64 c, .int .i64 s]) ∧ Below w.heap.size w w' := by
  go_enter Try.func49, Try.ntmps49
  go_wp2
  refine bodyPost_ret (v := .agg #[.int .i64 c, .int .i64 s]) (by simp [results, Try.results49, go_sem]) rfl ⟨rfl, ?_⟩
  exact below_al (below_al (below_al (Below.refl _ _) _) _) _

set_option maxHeartbeats 1000000 in
theorem toDishS_any (A : Option Addr) (c : Nat) (os : List Dsh) (w : World) (h : SD w w.heap.size A os) (hl : os.length ≤ 1048576) :
    Calls Try.prog 25 #[.slice A os.length c] w (RetD w os) := by
  have hmk := run_make_rowN (P := Try.prog) 37 58 #[.int .i64 0, .int .i64 0] 2 16 Try.underlying37 dish_info .i64 .i64 os.length (by omega) (by omega)
  go_enter Try.func25, Try.ntmps25
  go_wp2
  clear hmk
  go_loopw [4] (fun i wr => ∃ k : Nat, k ≤ os.length ∧ i = .int .i64 k ∧ Blk wr w.heap.size 58 (filled (.int .i64 0) (dishes (os.take k)) (os.length * 2)) ∧ Below w.heap.size w wr) (fun i _ => os.length - (intOf i).toNat)
  case atStart => exact ⟨0, Nat.zero_le _, rfl, by simpa [dishes, flat] using blk_made2 w _ _ _, (Below.refl _ _).alloc (Nat.le_refl _) _⟩
  case round =>
    obtain ⟨k, hk, rfl, hB, hW⟩ := hrel
    by_cases hlt : k < os.length
    · have hlk : (dishes (os.take k)).length = k * 2 := by rw [dishes_length, List.length_take]; omega
      obtain ⟨b, off, rfl, hbl, hc⟩ := (h.below hW).at_ (by omega)
      obtain ⟨hck1, hck2⟩ := hc k hlt
      have HLK := Lib.hid hlk
      clear hlk
      go_wp2_with fail
      refine (toDish_any _ _ _).mono ?_
      rintro e w1 ⟨rfl, b1⟩
      have hB1 := hB.below b1 hB.lt
      obtain ⟨hg1, hg2⟩ := hB1.fillAt HLK.out (by omega)
      have hB2 := hB1.fill HLK.out (by omega) (.int .i64 os[k].1)
      have hlk2 : (dishes (os.take k) ++ [Value.int .i64 os[k].1]).length = k * 2 + 1 := by rw [List.length_append, HLK.out]; rfl
      obtain ⟨hg3, hg4⟩ := hB2.fillAt hlk2 (by omega)
      have hB3 := hB2.fill hlk2 (by omega) (.int .i64 os[k].2)
      rw [← dishes_take_succ os k hlt] at hB3
      have HB3 := Lib.hid hB3
      have hW1 := below_step hW b1
      clear hB3 hB2 hB1 hB hlk2 HLK
      go_wp2
      go_roundw
      case rel => exact ⟨k + 1, by omega, by go_num, HB3.out, (hW1.setCell (Nat.le_refl _) _).setCell (Nat.le_refl _) _⟩
      case measure => simp [intOf]; omega
    · obtain rfl : k = os.length := by omega
      go_wp2
      go_ret
      refine ⟨_, rfl, ?_, hW⟩
      rw [filled_all _ _ _ (by rw [dishes_length, List.length_take]; omega), List.take_length] at hB
      exact hB.ownD (Nat.le_refl _) (by simp [maxLen]; omega)

set_option maxHeartbeats 1000000 in
theorem eqDish_any (c s : Int) (w : World) :
    Calls Try.prog 53 #[.agg #[.int .i64 c, .int .i64 s], .agg #[.int .i64 c, .int .i64 s]] w fun e w' => e = .returned (.bool true) ∧ Below w.heap.size w w' := by
  go_enter Try.func53, Try.ntmps53
  go_wp2
  go_ret
  exact ⟨rfl, below_al (below_al (Below.refl _ _) _) _⟩

set_option maxHeartbeats 1000000 in
theorem eqDishS_any (A A' : Option Addr) (c c' : Nat) (os : List Dsh) (w : World) (h : SD w w.heap.size A os) (h' : SD w w.heap.size A' os) (hl : os.length ≤ 1048576) :
    Calls Try.prog 28 #[.slice A os.length c, .slice A' os.length c'] w (RetE w) := by
  go_enter Try.func28, Try.ntmps28
  go_wp2
  go_loopw [5] (fun i wr => ∃ k : Nat, k ≤ os.length ∧ i = .int .i64 k ∧ Below w.heap.size w wr) (fun i _ => os.length - (intOf i).toNat)
  case atStart => exact ⟨0, Nat.zero_le _, rfl, Below.refl _ _⟩
  case round =>
    obtain ⟨k, hk, rfl, hW⟩ := hrel
    by_cases hlt : k < os.length
    · obtain ⟨b, off, rfl, hbl, hc⟩ := (h.below hW).at_ (by omega)
      obtain ⟨b', off', rfl, hbl', hc'⟩ := (h'.below hW).at_ (by omega)
      obtain ⟨hck1, hck2⟩ := hc k hlt
      obtain ⟨hck3, hck4⟩ := hc' k hlt
      go_wp2_with fail
      go_still_tail 8, (by kernel_rfl)
      go_wp2_with fail
      refine (eqDish_any _ _ _).mono ?_
      rintro e w1 ⟨rfl, b1⟩
      go_wp2
      go_roundw
      case rel => exact ⟨k + 1, by omega, by go_num, below_step hW.drew b1⟩
      case measure => simp [intOf]; omega
    · go_wp2
      go_ret
      exact ⟨rfl, hW⟩
set_option maxHeartbeats 1000000 in
theorem szDishS_any (A : Option Addr) (n c : Nat) (left : Int) (w : World) (h0 : 0 ≤ left) (h1 : left ≤ 1048576) (hn : n ≤ 9223372036854775807) :
    Calls Try.prog 23 #[.slice A n c, .int .i64 left] w fun e w' => e = .returned (.int .i64 (szR left n)) ∧ w = w' := by
  by_cases h : left < n
  · have e : szR left n = -1 := by simp [szR, h]
    have E := Lib.hid e
    clear e
    go_enter Try.func23, Try.ntmps23
    go_wp2
    go_ret
    exact ⟨ret_int E.out.symm, rfl⟩
  · have e : szR left n = left - n := by simp [szR, h]
    have E := Lib.hid e
    clear e
    go_enter Try.func23, Try.ntmps23
    go_wp2
    go_ret
    exact ⟨ret_int E.out.symm, rfl⟩
set_option maxHeartbeats 2000000 in
theorem markDishS_r (A : Option Addr) (c n : Nat) (cs : List Value) (m : Int) (w : World) (lo hi : Nat) (h : OwnR w lo hi 58 2 (.slice A n c) n cs) (hl : n ≤ 1048576) (h0 : 0 ≤ m) (h1 : m ≤ 1000000000) :
    Calls Try.prog 31 #[.slice A n c, .int .i64 m] w (MarkP w lo hi 58 2 A c n m) := by
  have hcl := h.1.1
  rcases h.1.2 with ⟨hv, hn⟩ | ⟨g, cap, cur, hv, hb, hg, hnc, hcm, hcs, htake⟩
  · injection hv with e1 e2 e3
    subst e1 e2 e3
    have hx : cs = [] := List.eq_nil_of_length_eq_zero (by simpa using hcl)
    subst hx
    go_enter Try.func31, Try.ntmps31
    go_wp2
    refine wp_loop_rounds 1 ?_
    rw [rounds_succ]
    go_wp2
    go_ret
    exact ⟨by simp, by simpa [marks, ints] using h, Chg.refl _ _ _⟩
  · injection hv with e1 e2 e3
    subst e1 e3
    have hO := h.1
    have H := Lib.hid h
    have hgl := h.2 g rfl
    have HT := Lib.hid htake
    have HCL := Lib.hid hcl
    have HCS := Lib.hid hcs
    clear h htake hcl hcs hg
    go_enter Try.func31, Try.ntmps31
    go_wp2
    go_loopw [1, 5] (fun q i wr => ∃ k : Nat, k ≤ n ∧ i = .int .i64 k ∧ q = .int .i64 (m + 2 * k) ∧ wr.ownsRow lo 58 2 (.slice (some ⟨g, 0, none⟩) n c) n (ints (marks m (k * 2)) ++ cs.drop (k * 2)) ∧ w.grownBy wr (some g)) (fun _ i _ => n - (intOf i).toNat)
    case atStart => exact ⟨0, Nat.zero_le _, rfl, by simp, by simpa [marks, ints] using hO, World.grownBy.refl _ _⟩
    case round =>
      obtain ⟨k, hk, rfl, rfl, hO, hW⟩ := hrel
      by_cases hlt : k < n
      · have hx1 := own_cell hO (k * 2) (by omega)
        obtain ⟨u1, hc1⟩ := hx1
        have hc2 := hO.frozenAt (k * 2)
        obtain ⟨hO2, hW2⟩ := hO.stored (k * 2) (.int .i64 (m + 2 * k))
        have e1 := marks_cells_set m cs (k * 2) (by rw [HCL.out]; omega)
        rw [show m + ((k * 2 : Nat) : Int) = m + 2 * (k : Int) by omega] at e1
        rw [e1] at hO2
        have hx3 := own_cell hO2 (k * 2 + 1) (by omega)
        obtain ⟨u3, hc3⟩ := hx3
        have hc4 := hO2.frozenAt (k * 2 + 1)
        obtain ⟨hO3, hW3⟩ := hO2.stored (k * 2 + 1) (.int .i64 (m + 2 * k + 1))
        have e2 := marks_cells_set m cs (k * 2 + 1) (by rw [HCL.out]; omega)
        rw [show m + ((k * 2 + 1 : Nat) : Int) = m + 2 * (k : Int) + 1 by omega, show k * 2 + 1 + 1 = (k + 1) * 2 by omega] at e2
        rw [e2] at hO3
        have HO3 := Lib.hid hO3
        clear hO2 hO hO3 e1 e2
        go_wp2
        go_roundw
        case rel => exact ⟨k + 1, by omega, by go_num, by go_num, HO3.out, grown_trans (grown_trans hW hW2) hW3⟩
        case measure => simp [intOf]; omega
      · obtain rfl : k = n := by omega
        go_wp2
        go_ret
        have e : cs.drop (k * 2) = [] := List.drop_of_length_le (by rw [HCL.out]; omega)
        rw [e, List.append_nil] at hO
        refine ⟨rfl, ⟨by rw [Nat.mul_comm 2 k]; exact hO, H.out.2⟩, Chg.of_grown hW fun g' hg' => ?_⟩
        cases hg'
        exact ⟨hb, hgl⟩
theorem eqDishS_e (A A' : Option Addr) (c c' : Nat) (os : List Dsh) (w : World) (h : RV w w.heap.size A (dishes os)) (h' : RV w w.heap.size A' (dishes os)) (hl : os.length ≤ 1048576) :
    Calls Try.prog 28 #[.slice A os.length c, .slice A' os.length c'] w (RetE w) := eqDishS_any A A' c c' os w h h' hl
end Go.Proofs.Ytddhbephpkmnnaa
