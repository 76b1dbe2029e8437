/- The reader that draws: a number below n out of the code's bytes. -/
import Derived.Test.YthbledeghanffaaDoorMem
import Derived.Test.YthbledeghanffaaDoorRows
import Derived.ProofKit
import Derived.Deep.QuietTactic
import Derived.BigQuiet
import Derived.IntWalk
import Derived.Laws.BitsAllLaws
set_option linter.unusedVariables false
set_option linter.unusedSimpArgs false
namespace Go.Proofs.YthbledeghanffaaDoor
open Go.ChangeShapes Go.WideShapes Go.ChangeAt Go.RowKit

def bts (xs : List Int) : List Value := xs.map (.int .u8)
theorem bts_length (xs : List Int) : (bts xs).length = xs.length := by simp [bts]
/-- The reader in block g: bytes that lie below base, and a place of at most M. -/
def Rd (w : World) (base g M : Nat) : Prop :=
  ∃ A c xs, ∃ p : Nat, Blk w g 77 [.slice A xs.length c, .int .i64 (p : Int)] ∧ base ≤ g ∧ RV w base A (bts xs) ∧ xs.length ≤ 2000 ∧ (∀ x ∈ xs, 0 ≤ x ∧ x ≤ 255) ∧ p ≤ M
theorem Rd.more {w : World} {base g M M' : Nat} (h : Rd w base g M) (hm : M ≤ M') : Rd w base g M' := by
  obtain ⟨A, c, xs, p, h1, h2, h3, h4, h5, h6⟩ := h
  exact ⟨A, c, xs, p, h1, h2, h3, h4, h5, by omega⟩
theorem Rd.lt {w : World} {base g M : Nat} (h : Rd w base g M) : base ≤ g ∧ g < w.heap.size := by
  obtain ⟨A, c, xs, p, h1, h2, _⟩ := h
  exact ⟨h2, h1.lt⟩
theorem Rd.below {w w' : World} {base g M : Nat} (h : Rd w base g M) (b : Below w.heap.size w w') : Rd w' base g M := by
  obtain ⟨A, c, xs, p, h1, h2, h3, h4⟩ := h
  refine ⟨A, c, xs, p, h1.below b h1.lt, h2, h3.below (b.mono (by have := h1.lt; omega)), h4⟩
theorem Rd.chg {w w' : World} {base g M lo hi : Nat} (h : Rd w base g M) (c : Chg lo hi w w') (hg : g < lo) : Rd w' base g M := by
  obtain ⟨A, cc, xs, p, h1, h2, h3, h4⟩ := h
  refine ⟨A, cc, xs, p, ?_, h2, h3.chg c (by omega), h4⟩
  unfold Blk at *
  rw [c.block g (lt_of_block h1) (.inl hg)]; exact h1
theorem bts_at {w : World} {B : Nat} {A : Option Addr} {xs : List Int} (h : RV w B A (bts xs)) (hp : 0 < xs.length) : ∃ b off, A = some ⟨b, off, none⟩ ∧ b < B ∧ ∀ j (h : j < xs.length), w.cell? ⟨b, off + j, none⟩ = some (.int .u8 xs[j]) := by
  obtain ⟨b, off, e, hb, hc⟩ := h (by rw [bts_length]; exact hp)
  exact ⟨b, off, e, hb, fun j hj => by rw [hc j (by rw [bts_length]; exact hj)]; simp [bts]⟩
/-- A number below n was drawn; only the reader's block has changed. -/
def PickP (w : World) (base g M : Nat) (n : Int) (e : Ending) (w' : World) : Prop :=
  ∃ v : Int, e = .returned (.int .i64 v) ∧ (0 ≤ v ∧ v < n) ∧ Rd w' base g (M + 1) ∧ Chg g (g + 1) w w'
theorem chg_cell {w : World} {g : Nat} (p : Addr) (hp : p.block = g) (u : Value) : Chg g (g + 1) w (w.setCell p u) :=
  ⟨rfl, rfl, rfl, by simp [World.setCell], fun k hk ho => Below.heap_setCell _ _ _ _ (by rw [hp]; omega)⟩
theorem chg_like {lo hi d : Nat} {w X Y : World} (h : Chg lo hi w X) (e : Y = { X with drawn := d }) : Chg lo hi w Y := by
  subst e
  exact ⟨h.os, h.tape, h.output, h.size, h.block⟩
theorem rd_step {w : World} {base g M : Nat} {A : Option Addr} {c : Nat} {xs : List Int} {p : Nat} (h1 : Blk w g 77 [.slice A xs.length c, .int .i64 (p : Int)]) (h2 : base ≤ g) (h3 : RV w base A (bts xs)) (h4 : xs.length ≤ 2000) (h5 : ∀ x ∈ xs, 0 ≤ x ∧ x ≤ 255) (h6 : p ≤ M) :
    Rd (w.setCell ⟨g, 1, none⟩ (.int .i64 ((p : Int) + 1))) base g (M + 1) := by
  refine ⟨A, c, xs, p + 1, ?_, h2, h3.chg (chg_cell _ rfl _) h2, h4, h5, by omega⟩
  have := h1.set_ 1 (.int .i64 ((p : Int) + 1))
  simpa using this
theorem xor_i64 (a b : Nat) (ha : a < 4611686018427387904) (hb : b < 4611686018427387904) : bits .xor .i64 (a : Int) (b : Int) = ((a ^^^ b : Nat) : Int) ∧ a ^^^ b < 4611686018427387904 := by
  have hx : a ^^^ b < 2 ^ 62 := Nat.xor_lt_two_pow (by omega) (by omega)
  have h1 : (BitVec.ofInt 64 (a : Int)).toNat = a := by
    rw [BitVec.ofInt_natCast, BitVec.toNat_ofNat]; exact Nat.mod_eq_of_lt (by omega)
  have h2 : (BitVec.ofInt 64 (b : Int)).toNat = b := by
    rw [BitVec.ofInt_natCast, BitVec.toNat_ofNat]; exact Nat.mod_eq_of_lt (by omega)
  refine ⟨?_, by omega⟩
  show IntKind.i64.wrap ((BitVec.ofInt 64 (a : Int) ^^^ BitVec.ofInt 64 (b : Int)).toNat : Int) = _
  rw [BitVec.toNat_xor, h1, h2, IntKind.wrap_i64]
  omega
theorem xor_shift (X : Nat) (hX : X < 4611686018427387904) : ∃ Y : Nat, Y < 4611686018427387904 ∧ bits .xor .i64 (X : Int) ((X : Int) / 64) = (Y : Int) := by
  have d : ((X : Int) / 64) = ((X / 64 : Nat) : Int) := by omega
  rw [d]
  obtain ⟨h1, h2⟩ := xor_i64 X (X / 64) hX (by omega)
  exact ⟨_, h2, h1⟩
set_option maxHeartbeats 4000000 in
theorem pick_any (base g M : Nat) (n : Int) (w : World) (h : Rd w base g M) (hM : M ≤ 1000000) (hn : 1 ≤ n) (hn2 : n ≤ 1000000) :
    Calls Tryd.prog 54 #[.pointer (some ⟨g, 0, none⟩), .int .i64 n] w (PickP w base g M n) := by
  obtain ⟨A, c, xs, p, h1, h2, h3, h4, h5, h6⟩ := h
  have hc0 : w.cell? ⟨g, 0, none⟩ = some (.slice A xs.length c) := h1.cell 0 (by simp)
  have hc1 : w.cell? ⟨g, 1, none⟩ = some (.int .i64 (p : Int)) := h1.cell 1 (by simp)
  have hf1 := h1.frozen 1
  have HR := Lib.hid (rd_step h1 h2 h3 h4 h5 h6)
  by_cases hz : xs.length = 0
  · have hx := List.eq_nil_of_length_eq_zero hz
    subst hx
    go_enter Tryd.func54, Tryd.ntmps54
    go_wp2
    go_ret
    exact ⟨0, rfl, by omega, HR.out, chg_cell ⟨g, 1, none⟩ rfl _⟩
  · have hp : 0 < xs.length := by omega
    obtain ⟨b, off, rfl, hb, hc⟩ := bts_at h3 hp
    have hne : ((xs.length : Int) == 0) = false := by simp; intro e; rw [e] at hz; simp at hz
    by_cases hlt : p < xs.length
    · have hck := hc p hlt
      have hx := h5 xs[p] (List.getElem_mem hlt)
      have hbg : b ≠ g := by omega
      clear hc h1 h3 h5
      generalize xs[p] = x at *
      go_enter Tryd.func54, Tryd.ntmps54
      go_wp2
      go_ret
      exact ⟨_, rfl, ⟨Int.emod_nonneg _ (by omega), Int.emod_lt_of_pos _ (by omega)⟩, HR.out, chg_cell ⟨g, 1, none⟩ rfl _⟩
    · obtain ⟨i1, hi1⟩ : ∃ i1 : Nat, p % xs.length = i1 := ⟨_, rfl⟩
      obtain ⟨i2, hi2⟩ : ∃ i2 : Nat, (p * 7 + 3) % xs.length = i2 := ⟨_, rfl⟩
      have hl1 : i1 < xs.length := by rw [← hi1]; exact Nat.mod_lt _ hp
      have hl2 : i2 < xs.length := by rw [← hi2]; exact Nat.mod_lt _ hp
      have hck1 := hc i1 hl1
      have hck2 := hc i2 hl2
      have hx1 := h5 xs[i1] (List.getElem_mem hl1)
      have hx2 := h5 xs[i2] (List.getElem_mem hl2)
      have hbg : b ≠ g := by omega
      have e1 : (p : Int).tmod (xs.length : Int) = (i1 : Int) := by rw [← hi1]; rfl
      have e2 : ((p : Int) * 7 + 3).tmod (xs.length : Int) = (i2 : Int) := by rw [← hi2]; rfl
      have e2' : ((p : Int) * 7 + 3) % (xs.length : Int) = (i2 : Int) := by rw [← hi2]; rfl
      have e1' : (p : Int) % (xs.length : Int) = (i1 : Int) := by rw [← hi1]; rfl
      have hdv : (p : Int) / (xs.length : Int) ≤ p ∧ 0 ≤ (p : Int) / (xs.length : Int) := ⟨Int.ediv_le_self _ (by omega), Int.ediv_nonneg (by omega) (by omega)⟩
      have hl1z : (i1 : Int) < (xs.length : Int) := by omega
      have hl2z : (i2 : Int) < (xs.length : Int) := by omega
      have hge : (xs.length : Int) ≤ (p : Int) := by omega
      clear hc h1 h3 h5 hi1 hi2
      generalize xs[i1] = x1 at *
      generalize xs[i2] = x2 at *
      go_enter Tryd.func54, Tryd.ntmps54
      go_wp2_with fail
      go_quiet (fail)
      clear e1 e2 e2' e1'
      have hd2 := hdv
      generalize (p : Int) / (xs.length : Int) = dv at *
      obtain ⟨X, hX⟩ : ∃ X : Nat, x1 * 131 + x2 * 1117 + (p : Int) * 29 + dv * 53 = X := ⟨(x1 * 131 + x2 * 1117 + (p : Int) * 29 + dv * 53).toNat, by omega⟩
      have hXl : X < 4611686018427387904 := by omega
      obtain ⟨Y, hY, hxor⟩ := xor_shift X hXl
      rw [hX]
      clear hX hdv hd2
      go_wp2
      go_ret
      exact ⟨_, rfl, ⟨Int.emod_nonneg _ (by omega), Int.emod_lt_of_pos _ (by omega)⟩, (HR.out.below (below_n _)), chg_like (chg_cell ⟨g, 1, none⟩ rfl _) rfl⟩
end Go.Proofs.YthbledeghanffaaDoor
