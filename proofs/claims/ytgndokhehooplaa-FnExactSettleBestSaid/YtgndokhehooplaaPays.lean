/- Contracts of the small functions over slices of payments (three numbers each). -/
import Derived.Test.YtgndokhehooplaaRows
import Derived.Test.YtgndokhehooplaaMem
import Derived.Test.YtgndokhehooplaaInts
import Derived.StillTailTactics
set_option linter.unusedVariables false
set_option linter.unusedSimpArgs false
namespace Go.Proofs.Ytgndokhehooplaa
open Go.ChangeShapes Go.WideShapes Go.ChangeAt Go.RowKit

abbrev PayT := Int × Int × Int
def encP (o : PayT) : List Value := [.int .i64 o.1, .int .i64 o.2.1, .int .i64 o.2.2]
theorem encP_len : ∀ o : PayT, (encP o).length = 3 := fun _ => rfl
def pays (os : List PayT) : List Value := flat encP os
theorem pays_length (os : List PayT) : (pays os).length = os.length * 3 := flat_length encP_len os
theorem pays_one (os : List PayT) : ∀ u ∈ pays os, u.oneCell' = true := by
  intro u hu
  simp only [pays, flat, List.mem_flatMap] at hu
  obtain ⟨o, _, h⟩ := hu
  simp [encP] at h
  rcases h with rfl | rfl | rfl <;> rfl
theorem pays_take_succ (os : List PayT) (k : Nat) (h : k < os.length) : pays (os.take (k + 1)) = pays (os.take k) ++ [.int .i64 os[k].1] ++ [.int .i64 os[k].2.1] ++ [.int .i64 os[k].2.2] := by
  rw [pays, flat_take_succ os k h]; simp [pays, encP]
def SP (w : World) (B : Nat) (A : Option Addr) (os : List PayT) : Prop := RV w B A (pays os)
section
variable {w w' : World} {B B' : Nat} {A : Option Addr} {os : List PayT}
theorem SP.at_ (h : SP w B A os) (hp : 0 < os.length) : ∃ b off, A = some ⟨b, off, none⟩ ∧ b < B ∧
    ∀ j (h : j < os.length), w.cell? ⟨b, off + j * 3, none⟩ = some (.int .i64 os[j].1) ∧ w.cell? ⟨b, off + j * 3 + 1, none⟩ = some (.int .i64 os[j].2.1) ∧ w.cell? ⟨b, off + j * 3 + 2, none⟩ = some (.int .i64 os[j].2.2) := by
  obtain ⟨b, off, e, hb, hc⟩ := RV.flatAt encP_len h (by omega) hp
  refine ⟨b, off, e, hb, fun j hj => ⟨?_, ?_, ?_⟩⟩
  · have := hc j hj 0 _ rfl
    simpa using this
  · have := hc j hj 1 _ rfl
    rwa [← Nat.add_assoc] at this
  · have := hc j hj 2 _ rfl
    rwa [← Nat.add_assoc] at this
theorem SP.nil (w : World) (B : Nat) (A : Option Addr) : SP w B A [] := RV.nil w B A
theorem SP.below (h : SP w B A os) (hb : Below B w w') : SP w' B A os := RV.below h hb
theorem SP.more (h : SP w B A os) (hB : B ≤ B') : SP w B' A os := RV.more h hB
theorem SP.tight (h : SP w B A os) : SP w w.heap.size A os := RV.tight h
theorem SP.grown (h : SP w B A os) {row : Option Nat} (hg : w.grownBy w' row) (hr : ∀ g, row = some g → B ≤ g) : SP w' B A os := RV.grown h hg hr
end
def OP (w : World) (base : Nat) (v : Value) (os : List PayT) : Prop := w.ownsRow base 53 3 v os.length (pays os)
section
variable {w w' : World} {base base' : Nat} {v : Value} {os : List PayT}
theorem OP.nil (w : World) (base : Nat) : OP w base (.slice none 0 0) [] := World.ownsRow_nil w base _ 3
theorem OP.form (h : OP w base v os) : ∃ A c, v = .slice A os.length c ∧ SP w w.heap.size A os ∧ os.length ≤ c ∧ c ≤ maxLen ∧ (∀ ad, A = some ad → base ≤ ad.block ∧ ad.off = 0 ∧ ad.spot = none) := own_form h
theorem OP.below (h : OP w base v os) (hb : Below w.heap.size w w') : OP w' base v os := own_below h hb
theorem OP.mono (h : OP w base v os) (hb : base' ≤ base) : OP w base' v os := own_mono h hb
theorem OP.grown (h : OP w base v os) {row : Option Nat} (hg : w.grownBy w' row) (hne : v.ownBlock = none ∨ v.ownBlock ≠ row) : OP w' base v os := h.kept hg hne
theorem OP.lt (h : OP w base v os) : ∀ k, v.ownBlock = some k → base ≤ k ∧ k < w.heap.size := World.ownsRow.lt h
end
theorem Blk.ownP {w : World} {g base : Nat} {os : List PayT} (h : Blk w g 53 (pays os)) (hb : base ≤ g) (hm : os.length ≤ maxLen) : OP w base (.slice (some ⟨g, 0, none⟩) os.length os.length) os :=
  h.own hb (pays_length os) hm
def RetP (w : World) (os : List PayT) (e : Ending) (w' : World) : Prop := ∃ v, e = .returned v ∧ OP w' w.heap.size v os ∧ Below w.heap.size w w'

theorem pay_info : (Try.prog.info? 53).map (fun i => (i.zero, i.size, i.bytes)) = some (some (.agg #[.int .i64 0, .int .i64 0, .int .i64 0]), 3, 24) := by kernel_rfl


set_option maxHeartbeats 1000000 in
theorem eqPay_any (c s u : Int) (w : World) :
    Calls Try.prog 54 #[.agg #[.int .i64 c, .int .i64 s, .int .i64 u], .agg #[.int .i64 c, .int .i64 s, .int .i64 u]] w fun e w' => e = .returned (.bool true) ∧ Below w.heap.size w w' := by
  go_enter Try.func54, Try.ntmps54
  go_wp2
  go_ret
  exact ⟨rfl, below_al (below_al (Below.refl _ _) _) _⟩

set_option maxHeartbeats 1000000 in
theorem eqPayS_any (A A' : Option Addr) (c c' : Nat) (os : List PayT) (w : World) (h : SP w w.heap.size A os) (h' : SP w w.heap.size A' os) (hl : os.length ≤ 1048576) :
    Calls Try.prog 23 #[.slice A os.length c, .slice A' os.length c'] w (RetE w) := by
  go_enter Try.func23, Try.ntmps23
  go_wp2
  go_loopw [5] (fun i wr => ∃ k : Nat, k ≤ os.length ∧ i = .int .i64 k ∧ Below w.heap.size w wr) (fun i _ => os.length - (intOf i).toNat)
  case atStart => exact ⟨0, Nat.zero_le _, rfl, Below.refl _ _⟩
  case round =>
    obtain ⟨k, hk, rfl, hW⟩ := hrel
    by_cases hlt : k < os.length
    · obtain ⟨b, off, rfl, hbl, hc⟩ := (h.below hW).at_ (by omega)
      obtain ⟨b', off', rfl, hbl', hc'⟩ := (h'.below hW).at_ (by omega)
      obtain ⟨hck1, hck2, hck5⟩ := hc k hlt
      obtain ⟨hck3, hck4, hck6⟩ := hc' k hlt
      go_wp2_with fail
      go_still_tail 8, (by kernel_rfl)
      go_wp2_with fail
      refine (eqPay_any _ _ _ _).mono ?_
      rintro e w1 ⟨rfl, b1⟩
      go_wp2
      go_roundw
      case rel => exact ⟨k + 1, by omega, by go_num, below_step hW.drew b1⟩
      case measure => simp [intOf]; omega
    · go_wp2
      go_ret
      exact ⟨rfl, hW⟩
set_option maxHeartbeats 2000000 in
theorem markPayS_r (A : Option Addr) (c n : Nat) (cs : List Value) (m : Int) (w : World) (lo hi : Nat) (h : OwnR w lo hi 53 3 (.slice A n c) n cs) (hl : n ≤ 1048576) (h0 : 0 ≤ m) (h1 : m ≤ 1000000000) :
    Calls Try.prog 24 #[.slice A n c, .int .i64 m] w (MarkP w lo hi 53 3 A c n m) := by
  have hcl := h.1.1
  rcases h.1.2 with ⟨hv, hn⟩ | ⟨g, cap, cur, hv, hb, hg, hnc, hcm, hcs, htake⟩
  · injection hv with e1 e2 e3
    subst e1 e2 e3
    have hx : cs = [] := List.eq_nil_of_length_eq_zero (by simpa using hcl)
    subst hx
    go_enter Try.func24, Try.ntmps24
    go_wp2
    refine wp_loop_rounds 1 ?_
    rw [rounds_succ]
    go_wp2
    go_ret
    exact ⟨by simp, by simpa [marks, ints] using h, Chg.refl _ _ _⟩
  · injection hv with e1 e2 e3
    subst e1 e3
    have hO := h.1
    have H := Lib.hid h
    have hgl := h.2 g rfl
    have HT := Lib.hid htake
    have HCL := Lib.hid hcl
    have HCS := Lib.hid hcs
    clear h htake hcl hcs hg
    go_enter Try.func24, Try.ntmps24
    go_wp2
    go_loopw [1, 5] (fun q i wr => ∃ k : Nat, k ≤ n ∧ i = .int .i64 k ∧ q = .int .i64 (m + 3 * k) ∧ wr.ownsRow lo 53 3 (.slice (some ⟨g, 0, none⟩) n c) n (ints (marks m (k * 3)) ++ cs.drop (k * 3)) ∧ w.grownBy wr (some g)) (fun _ i _ => n - (intOf i).toNat)
    case atStart => exact ⟨0, Nat.zero_le _, rfl, by simp, by simpa [marks, ints] using hO, World.grownBy.refl _ _⟩
    case round =>
      obtain ⟨k, hk, rfl, rfl, hO, hW⟩ := hrel
      by_cases hlt : k < n
      · have hx1 := own_cell hO (k * 3) (by omega)
        obtain ⟨u1, hc1⟩ := hx1
        have hc2 := hO.frozenAt (k * 3)
        obtain ⟨hO2, hW2⟩ := hO.stored (k * 3) (.int .i64 (m + 3 * k))
        have e1 := marks_cells_set m cs (k * 3) (by rw [HCL.out]; omega)
        rw [show m + ((k * 3 : Nat) : Int) = m + 3 * (k : Int) by omega] at e1
        rw [e1] at hO2
        have hx3 := own_cell hO2 (k * 3 + 1) (by omega)
        obtain ⟨u3, hc3⟩ := hx3
        have hc4 := hO2.frozenAt (k * 3 + 1)
        obtain ⟨hO3, hW3⟩ := hO2.stored (k * 3 + 1) (.int .i64 (m + 3 * k + 1))
        have e2 := marks_cells_set m cs (k * 3 + 1) (by rw [HCL.out]; omega)
        rw [show m + ((k * 3 + 1 : Nat) : Int) = m + 3 * (k : Int) + 1 by omega, show k * 3 + 1 + 1 = k * 3 + 2 by omega] at e2
        rw [e2] at hO3
        have hx5 := own_cell hO3 (k * 3 + 2) (by omega)
        obtain ⟨u5, hc5⟩ := hx5
        have hc6 := hO3.frozenAt (k * 3 + 2)
        obtain ⟨hO4, hW4⟩ := hO3.stored (k * 3 + 2) (.int .i64 (m + 3 * k + 1 + 1))
        have e3 := marks_cells_set m cs (k * 3 + 2) (by rw [HCL.out]; omega)
        rw [show m + ((k * 3 + 2 : Nat) : Int) = m + 3 * (k : Int) + 1 + 1 by omega, show k * 3 + 2 + 1 = (k + 1) * 3 by omega] at e3
        rw [e3] at hO4
        have HO3 := Lib.hid hO4
        clear hO2 hO hO3 hO4 e1 e2 e3
        go_wp2
        go_roundw
        case rel => exact ⟨k + 1, by omega, by go_num, by go_num, HO3.out, grown_trans (grown_trans (grown_trans hW hW2) hW3) hW4⟩
        case measure => simp [intOf]; omega
      · obtain rfl : k = n := by omega
        go_wp2
        go_ret
        have e : cs.drop (k * 3) = [] := List.drop_of_length_le (by rw [HCL.out]; omega)
        rw [e, List.append_nil] at hO
        refine ⟨rfl, ⟨by rw [Nat.mul_comm 3 k]; exact hO, H.out.2⟩, Chg.of_grown hW fun g' hg' => ?_⟩
        cases hg'
        exact ⟨hb, hgl⟩
set_option maxHeartbeats 1000000 in
theorem heldPayS_r (A : Option Addr) (c n : Nat) (m : Int) (w : World) (B : Nat) (h : RV w B A (ints (marks m (3 * n)))) (hl : n ≤ 1048576) (h0 : 0 ≤ m) (h1 : m ≤ 1000000000) :
    Calls Try.prog 25 #[.slice A n c, .int .i64 m] w fun e w' => e = .returned (.int .i64 (m + ((3 : Nat) : Int) * n)) ∧ w = w' := by
  go_enter Try.func25, Try.ntmps25
  go_wp2
  go_loop [1, 5] (fun q i => ∃ k : Nat, k ≤ n ∧ i = .int .i64 k ∧ q = .int .i64 (m + 3 * k)) (fun _ i => n - (intOf i).toNat)
  case atStart => exact ⟨0, Nat.zero_le _, rfl, by simp⟩
  case round =>
    obtain ⟨k, hk, rfl, rfl⟩ := hrel
    by_cases hlt : k < n
    · obtain ⟨b, off, rfl, hbl, hc⟩ := IS.at_ h (by rw [marks_length]; omega)
      have hck := hc (k * 3) (by rw [marks_length]; omega)
      have hck2 := hc (k * 3 + 1) (by rw [marks_length]; omega)
      have hck3 := hc (k * 3 + 2) (by rw [marks_length]; omega)
      rw [marks_get] at hck hck2 hck3
      rw [show m + ((k * 3 : Nat) : Int) = m + 3 * (k : Int) by omega] at hck
      rw [show m + ((k * 3 + 1 : Nat) : Int) = m + 3 * (k : Int) + 1 by omega, ← Nat.add_assoc] at hck2
      rw [show m + ((k * 3 + 2 : Nat) : Int) = m + 3 * (k : Int) + 1 + 1 by omega, ← Nat.add_assoc] at hck3
      clear hc
      go_wp2
      go_round
      case rel => exact ⟨k + 1, by omega, by go_num, by go_num⟩
      case measure => simp [intOf]; omega
    · obtain rfl : k = n := by omega
      go_wp2
      go_ret
      exact ⟨rfl, rfl⟩
theorem eqPayS_e (A A' : Option Addr) (c c' : Nat) (os : List PayT) (w : World) (h : RV w w.heap.size A (pays os)) (h' : RV w w.heap.size A' (pays os)) (hl : os.length ≤ 1048576) :
    Calls Try.prog 23 #[.slice A os.length c, .slice A' os.length c'] w (RetE w) := eqPayS_any A A' c c' os w h h' hl
end Go.Proofs.Ytgndokhehooplaa
